/- What the claim's walk rests on: parts TriDomino, Covered, Partial, Tile. -/
import Derived.Test.YtehnbalbpfmijaaKDm1
import Derived.Deep.RegionHeld3
import Derived.Deep.QuietTactic
import Derived.BigQuiet
namespace Go.Proofs.Ytehnbalbpfmijaa
open Go.RowKit

theorem eqDomino_self (x y : Int) (d : Bool) (w : World) :
    Calls Try.prog 103 #[triV x y d, triV x y d] w fun e w' => e = .returned (.bool true) ∧ Below w.heap.size w w' := by
  have h1 : (x != x) = false := by simp
  have h2 : (y != y) = false := by simp
  cases d
  all_goals
    go_enter Try.func103, Try.ntmps103
    go_wp2
    go_ret
    exact ⟨rfl, ((Below.refl _ _).alloc (by (try simp) <;> omega) _).alloc (by (try simp) <;> omega) _⟩

set_option maxHeartbeats 2000000 in
theorem eqDominoS_self (u v : Value) (ls : List Lk) (B C : Nat) (w : World) (hu : RdF elDomino w B u ls) (hv : RdF elDomino w C v ls) (hB : B ≤ w.heap.size) (hC : C ≤ w.heap.size) :
    Calls Try.prog 37 #[u, v] w fun e w' => e = .returned (.bool true) ∧ Below w.heap.size w w' := by
  obtain ⟨A, c, rfl, g1, g2, G3⟩ := RdT.of (E := elDomino) rfl (fun _ => rfl) hu
  obtain ⟨A', c', rfl, g1', g2', G3'⟩ := RdT.of (E := elDomino) rfl (fun _ => rfl) hv
  unfold maxLen at g2 g2'
  clear hu hv
  go_enter Try.func37, Try.ntmps37
  go_wp2_with fail
  go_loopw [5] (fun i wr => ∃ k : Nat, k ≤ ls.length ∧ i = .int .i64 k ∧ Below w.heap.size w wr) (fun i _ => ls.length - (intOf i).toNat)
  case atStart => exact ⟨0, Nat.zero_le _, rfl, Below.refl _ _⟩
  case round =>
    obtain ⟨k, hk, rfl, hd⟩ := hrel
    by_cases hlt : k < ls.length
    · obtain ⟨ad, rfl, hb, hx, hy, hz⟩ := G3.out k hlt
      obtain ⟨ad', rfl, hb', hx', hy', hz'⟩ := G3'.out k hlt
      have hk0 : (0 : Int) ≤ (k : Int) := by omega
      have hk1 : (k : Int) < (ls.length : Int) := by omega
      have HS := Lib.hid (keepSix0 hd (show (ad.add (k * 3)).block < w.heap.size by rw [addBlock]; omega) (show (ad'.add (k * 3)).block < w.heap.size by rw [addBlock]; omega) ⟨hx, hy, hz, hx', hy', hz'⟩)
      have L1 := Lib.hid (show (ad.add (k * 3)).block < w.heap.size by rw [addBlock]; omega)
      have L2 := Lib.hid (show (ad'.add (k * 3)).block < w.heap.size by rw [addBlock]; omega)
      clear hx hy hz hx' hy' hz'
      go_wp2_with fail
      go_region_held3 (fun w' => SixS w w' (ad.add (k * 3)) (ad'.add (k * 3)) (lx ls k) (ly ls k) (ld ls k))
        (first
          | exact keepSix hb1 L1.out L2.out (by assumption)
          | exact drewSix HS.out)
        (first
          | (go_at_call 103; refine (eqDomino_self _ _ _ _).mono ?_; rintro e w1 ⟨rfl, hb1⟩))
      have hd2 := (show SixS w w1 _ _ _ _ _ from by assumption).2.2.2.2.2.2.2
      go_wp2_with fail
      go_roundw
      case rel => exact ⟨k + 1, by omega, by go_num, hd2⟩
      case measure => simp [intOf]; omega
    · go_wp2_with fail
      go_ret
      exact ⟨rfl, hd⟩

def MarkDominoPost (w : World) (lo : Nat) (v : Value) (n : Nat) (k : Int) (e : Ending) (w' : World) : Prop :=
  e = .returned (.int .i64 (k + 3 * (n : Int))) ∧ OwnF elDomino w' lo v (triIota k n) ∧ w.grownBy w' v.ownBlock

set_option maxHeartbeats 2000000 in
theorem markDominoS_any (v : Value) (ls : List Lk) (lo : Nat) (k : Int) (w : World) (h : OwnF elDomino w lo v ls) (hl : ls.length ≤ 1048576) (h1 : 0 ≤ k) (h2 : k ≤ 1099511627776) :
    Calls Try.prog 40 #[v, .int .i64 k] w (MarkDominoPost w lo v ls.length k) := by
  rcases Nat.eq_zero_or_pos ls.length with h0 | hpos
  · obtain ⟨A, c, hv, _, _, _⟩ := h.rd okDomino
    have hz : ls = [] := List.eq_nil_of_length_eq_zero h0
    subst hz
    have HH := Lib.hid h
    clear h
    rw [hv] at HH ⊢
    clear hv
    go_enter Try.func40, Try.ntmps40
    go_wp2_with fail
    go_loopw [1, 5] (fun a i wr => a = .int .i64 k ∧ i = .int .i64 0 ∧ w = wr) (fun _ _ _ => 0)
    case atStart => exact ⟨rfl, rfl, rfl⟩
    case round =>
      obtain ⟨rfl, rfl, rfl⟩ := hrel
      go_wp2_with fail
      go_ret
      exact ⟨ret_int (by simp), (show OwnF elDomino w lo (.slice A 0 c) [] from HH.out), World.grownBy.refl w _⟩
  · obtain ⟨g, cap, hv, hlo, hgl⟩ := World.ownsRow.form h hpos
    obtain ⟨A0, c0, e0, q1, q2, _⟩ := h.rd okDomino
    rw [hv] at e0
    obtain rfl : cap = c0 := by simp only [Value.slice.injEq] at e0; exact e0.2.2
    unfold maxLen at q2
    have HH := Lib.hid h
    clear h e0
    rw [hv] at HH ⊢
    clear hv
    go_enter Try.func40, Try.ntmps40
    go_wp2_with fail
    go_loopw [1, 5] (fun a i wr => ∃ j : Nat, j ≤ ls.length ∧ a = .int .i64 (k + 3 * (j : Int)) ∧ i = .int .i64 j ∧ Hid (OwnF elDomino wr lo (.slice (some ⟨g, 0, none⟩) (triTo ls k j).length cap) (triTo ls k j)) ∧ w.grownBy wr (some g)) (fun _ i _ => ls.length - (intOf i).toNat)
    case atStart => exact ⟨0, Nat.zero_le _, by simp, rfl, by (unfold Hid; rw [triTo_zero]; exact HH.out), World.grownBy.refl w _⟩
    case round =>
      obtain ⟨j, hj, rfl, rfl, HO, hgr⟩ := hrel
      by_cases hlt : j < ls.length
      · obtain ⟨hc0, hc1, hc2, hfr, ht⟩ := triStore okDomino rfl (fun _ => rfl) HO.out (j := j) (by rw [triTo_length]; exact hlt)
        obtain ⟨hst1, hst2⟩ := ht (k + 3 * (j : Int)) (k + 3 * (j : Int) + 1) ((k + 3 * (j : Int) + 1 + 1) % 3 == 0)
        rw [triTo_set ls k j hlt] at hst1
        have HN := Lib.hid hst1
        have HG := Lib.hid (hgr.trans hst2)
        clear hst1 hst2 ht
        have hk0 : (0 : Int) ≤ (j : Int) := by omega
        have hk1 : (j : Int) < (ls.length : Int) := by omega
        go_wp2_with fail
        go_roundw
        case rel => exact ⟨j + 1, by omega, by simp; omega, by go_num, HN, HG.out⟩
        case measure => simp [intOf]; omega
      · have HJ : Hid (j = ls.length) := by unfold Hid; omega
        go_wp2_with fail
        go_ret
        refine ⟨ret_int (by rw [HJ.out]), ?_, hgr⟩
        have ho := HO.out
        rw [triTo_length, HJ.out, triTo_all] at ho
        exact ho

set_option maxHeartbeats 2000000 in
theorem heldDominoS_any (v : Value) (n : Nat) (k : Int) (B : Nat) (w : World) (h : RdF elDomino w B v (triIota k n)) (hl : n ≤ 1048576) (h1 : 0 ≤ k) (h2 : k ≤ 1099511627776) :
    Calls Try.prog 41 #[v, .int .i64 k] w fun e w' => e = .returned (.int .i64 (k + 3 * (n : Int))) ∧ w = w' := by
  obtain ⟨A, c, rfl, g1, g2, G3⟩ := RdT.of (E := elDomino) rfl (fun _ => rfl) h
  rw [triIota_length] at *
  unfold maxLen at g2
  clear h
  go_enter Try.func41, Try.ntmps41
  go_wp2_with fail
  go_loop [1, 5] (fun a i => ∃ j : Nat, j ≤ n ∧ a = .int .i64 (k + 3 * (j : Int)) ∧ i = .int .i64 j) (fun _ i => n - (intOf i).toNat)
  case atStart => exact ⟨0, Nat.zero_le _, by simp, rfl⟩
  case round =>
    obtain ⟨j, hj, rfl, rfl⟩ := hrel
    by_cases hlt : j < n
    · obtain ⟨ad, rfl, hb, hx, hy, hz⟩ := G3.out j hlt
      rw [triIota_x _ _ _ hlt] at hx
      rw [triIota_y _ _ _ hlt] at hy
      rw [triIota_d _ _ _ hlt] at hz
      have hne : (k + 3 * (j : Int) != k + 3 * (j : Int)) = false := by simp
      have hne2 : (k + 3 * (j : Int) + 1 != k + 3 * (j : Int) + 1) = false := by simp
      go_wp2_with fail
      go_round
      case rel => exact ⟨j + 1, by omega, by simp; omega, by go_num⟩
      case measure => simp [intOf]; omega
    · have HJ : Hid (j = n) := by unfold Hid; omega
      go_wp2_with fail
      go_ret
      exact ⟨ret_int (by rw [HJ.out]), rfl⟩
end Go.Proofs.Ytehnbalbpfmijaa

namespace Go.Proofs.Ytehnbalbpfmijaa
open Go.RowKit
set_option linter.unusedVariables false

/-- Domino j of a list, and its cells. -/
def dAt (ls : List Lk) (j : Nat) : Lk := (lx ls j, ly ls j, ld ls j)
def domL (l : Lk) : Bool := domB l.1 l.2.1 l.2.2
def dM (l : Lk) : Nat := domM l.1.toNat l.2.1.toNat l.2.2
def covTo (ls : List Lk) : Nat → Nat
  | 0 => 0
  | k + 1 => if domL (dAt ls k) then covTo ls k ||| dM (dAt ls k) else covTo ls k
theorem dset_Z (x y : Int) (d : Bool) (w : World) (h : domB x y d = true) :
    Calls Try.prog 130 #[triV x y d] w fun e w' => e = .returned (.int .u64 (dM (x, y, d) : Nat)) ∧ Below w.heap.size w w' := by
  have hd := (domB_iff _ _ _).1 h
  obtain ⟨a, rfl⟩ := Int.eq_ofNat_of_zero_le hd.1.1
  obtain ⟨b, rfl⟩ := Int.eq_ofNat_of_zero_le hd.1.2
  exact dset_any a b d w h
theorem dM_lt {l : Lk} (h : domL l = true) : dM l < 18446744073709551616 := by
  obtain ⟨x, y, d⟩ := l
  have hd := (domB_iff _ _ _).1 h
  obtain ⟨a, rfl⟩ := Int.eq_ofNat_of_zero_le hd.1.1
  obtain ⟨b, rfl⟩ := Int.eq_ofNat_of_zero_le hd.1.2
  exact domM_lt a b d h
theorem covTo_lt (ls : List Lk) : ∀ k, covTo ls k < 18446744073709551616
  | 0 => by simp [covTo]
  | k + 1 => by
    rw [covTo]
    split
    · rename_i h; exact orU _ _ (covTo_lt ls k) (dM_lt h)
    · exact covTo_lt ls k
/-- One struct of three fields, in a world that grows. -/
abbrev OneT (W w' : World) (a : Nat) (x y : Int) (d : Bool) : Prop := w'.cell? ⟨a, 0, none⟩ = some (.int .i64 x) ∧ w'.cell? ⟨a, 1, none⟩ = some (.int .i64 y) ∧ w'.cell? ⟨a, 2, none⟩ = some (.bool d) ∧ W.heap.size ≤ w'.heap.size ∧ Below W.heap.size W w'
theorem OneT.keep {W W0 w1 : World} {a : Nat} {x y : Int} {d : Bool} (hb : Below W0.heap.size W0 w1) (ha : a < W.heap.size) (h : OneT W W0 a x y d) : OneT W w1 a x y d := by
  obtain ⟨h1, h2, h3, h7, h8⟩ := h
  exact ⟨(hb.cell (by simp; omega)).trans h1, (hb.cell (by simp; omega)).trans h2, (hb.cell (by simp; omega)).trans h3, Nat.le_trans h7 hb.size, h8.trans (hb.mono h7)⟩
theorem OneT.drew {W W0 : World} {a : Nat} {x y : Int} {d : Bool} (h : OneT W W0 a x y d) : OneT W W0.drew a x y d := ⟨h.1, h.2.1, h.2.2.1, h.2.2.2.1, h.2.2.2.2.drew⟩
theorem OneT.of {W : World} {a : Nat} {x y : Int} {d : Bool} {t : TypeId} (k1 : W.heap[a]? = some (triO x y d t)) : OneT W W a x y d :=
  ⟨by rw [blk_cell k1]; rfl, by rw [blk_cell k1]; rfl, by rw [blk_cell k1]; rfl, Nat.le_refl _, Below.refl _ _⟩

set_option maxRecDepth 100000 in
set_option maxHeartbeats 4000000 in
theorem covered_any (v : Value) (ls : List Lk) (B : Nat) (w : World) (h : RdF elDomino w B v ls) (hB : B ≤ w.heap.size) :
    Calls Try.prog 76 #[v] w fun e w' => e = .returned (.int .u64 (covTo ls ls.length : Nat)) ∧ Below w.heap.size w w' := by
  obtain ⟨A, c, rfl, g1, g2, G3⟩ := RdT.of (E := elDomino) rfl (fun _ => rfl) h
  unfold maxLen at g2
  clear h
  go_enter Try.func76, Try.ntmps76
  go_wp2_with fail
  go_loopw [3, 8] (fun s i wr => ∃ k : Nat, k ≤ ls.length ∧ i = .int .i64 k ∧ s = .int .u64 (covTo ls k : Nat) ∧ Hid (Below w.heap.size w wr)) (fun _ i _ => ls.length - (intOf i).toNat)
  case atStart => exact ⟨0, Nat.zero_le _, rfl, rfl, Below.refl _ _⟩
  case round =>
    obtain ⟨k, hk, rfl, rfl, HB⟩ := hrel
    by_cases hlt : k < ls.length
    · obtain ⟨ad, rfl, hbl, hx, hy, hz⟩ := G3.out k hlt
      have hbl2 : (ad.add (k * 3)).block < w.heap.size := by rw [addBlock]; omega
      have hx' := (HB.out.cell (p := ad.add (k * 3)) hbl2).trans hx
      have hy' := (HB.out.cell (p := ⟨(ad.add (k * 3)).block, (ad.add (k * 3)).off + 1, none⟩) hbl2).trans hy
      have hz' := (HB.out.cell (p := ⟨(ad.add (k * 3)).block, (ad.add (k * 3)).off + 2, none⟩) hbl2).trans hz
      have HT : Hid (covTo ls (k + 1) = if domB (lx ls k) (ly ls k) (ld ls k) then covTo ls k ||| dM (lx ls k, ly ls k, ld ls k) else covTo ls k) := rfl
      have HCL := Lib.hid (covTo_lt ls k)
      have HDL := Lib.hid (fun h => dM_lt (l := (lx ls k, ly ls k, ld ls k)) h)
      have HDS := Lib.hid (fun V h => dset_Z (lx ls k) (ly ls k) (ld ls k) V h)
      generalize lx ls k = x at *
      generalize ly ls k = y at *
      generalize ld ls k = d at *
      clear hx hy hz
      go_wp2_with fail
      obtain ⟨W, hW, k1, hbW⟩ := one_alloc wr (triO x y d 46)
      rw [← hW]
      have hT0 := OneT.of k1
      have HT0 := Lib.hid hT0
      have L1 := Lib.hid (lt_of_block k1)
      have HBW := Lib.hid (HB.out.trans (hbW.mono HB.out.size))
      clear hW k1 hbW hx' hy' hz' hT0
      refine (DominoOk_any x y d _).mono ?_
      rintro e w1 ⟨rfl, hb1⟩
      have hT1 := OneT.keep hb1 L1.out HT0.out
      have HB1 := Lib.hid (HBW.out.trans (hb1.mono HBW.out.size))
      obtain ⟨f1, f2, f3, _, _⟩ := hT1
      clear hb1
      cases hd : domB x y d
      · have HE : Hid (covTo ls (k + 1) = covTo ls k) := by unfold Hid; rw [HT.out, hd]; rfl
        clear HT
        go_wp2_with fail
        go_roundw
        case rel => exact ⟨k + 1, by omega, by go_num, by rw [HE.out], HB1⟩
        case measure => simp [intOf]; omega
      · have HE : Hid (covTo ls (k + 1) = covTo ls k ||| dM (x, y, d)) := by unfold Hid; rw [HT.out, hd]; rfl
        have HD1 := Lib.hid hd
        have HO := Lib.hid (u64_or_nat _ _ HCL.out (HDL.out hd))
        clear HT hd
        go_wp2_with fail
        refine (HDS.out _ HD1.out).mono ?_
        rintro e w2 ⟨rfl, hb2⟩
        have HB2 := Lib.hid (HB1.out.trans (hb2.mono HB1.out.size))
        go_wp2_with fail
        go_roundw
        case rel => exact ⟨k + 1, by omega, by go_num, by rw [HE.out, HO.out], HB2⟩
        case measure => simp [intOf]; omega
    · have HK : Hid (k = ls.length) := by unfold Hid; omega
      go_wp2_with fail
      go_ret
      exact ⟨congrArg (fun n : Nat => Ending.returned (.int .u64 (covTo ls n : Int))) HK.out, HB.out⟩
end Go.Proofs.Ytehnbalbpfmijaa

namespace Go.Proofs.Ytehnbalbpfmijaa
open Go.RowKit
set_option linter.unusedVariables false

/-- What is left behind k dominoes. -/
def lftTo (R : Nat) (ls : List Lk) : Nat → Nat
  | 0 => R
  | k + 1 => lftTo R ls k &&& (18446744073709551615 - dM (dAt ls k))
def pAt (R : Nat) (ls : List Lk) (k : Nat) : Bool := domL (dAt ls k) && (lftTo R ls k &&& dM (dAt ls k) == dM (dAt ls k)) && (decide (k = 0) || domLt (dAt ls (k - 1)) (dAt ls k))
def partB (R : Nat) (ls : List Lk) : Bool := upFrom (pAt R ls) 0 ls.length
theorem lftTo_lt {R : Nat} (hR : R < 18446744073709551616) (ls : List Lk) : ∀ k, lftTo R ls k < 18446744073709551616
  | 0 => hR
  | k + 1 => by rw [lftTo]; exact Nat.lt_of_le_of_lt Nat.and_le_left (lftTo_lt hR ls k)

/-- One struct in a cell of its own, another one beside it, in a world that grows. -/
abbrev PrevT (V w' : World) (a : Nat) (x y : Int) (d : Bool) (p : Addr) (x' y' : Int) (d' : Bool) : Prop := w'.cell? ⟨a, 0, none⟩ = some (.int .i64 x) ∧ w'.cell? ⟨a, 1, none⟩ = some (.int .i64 y) ∧ w'.cell? ⟨a, 2, none⟩ = some (.bool d) ∧
  w'.cell? p = some (.int .i64 x') ∧ w'.cell? ⟨p.block, p.off + 1, none⟩ = some (.int .i64 y') ∧ w'.cell? ⟨p.block, p.off + 2, none⟩ = some (.bool d') ∧ V.heap.size ≤ w'.heap.size ∧ Below V.heap.size V w'
theorem PrevT.keep {V W0 w1 : World} {a : Nat} {x y : Int} {d : Bool} {p : Addr} {x' y' : Int} {d' : Bool} (hb : Below W0.heap.size W0 w1) (ha : a < V.heap.size) (hp : p.block < V.heap.size) (h : PrevT V W0 a x y d p x' y' d') : PrevT V w1 a x y d p x' y' d' := by
  obtain ⟨h1, h2, h3, h4, h5, h6, h7, h8⟩ := h
  exact ⟨(hb.cell (by simp; omega)).trans h1, (hb.cell (by simp; omega)).trans h2, (hb.cell (by simp; omega)).trans h3, (hb.cell (by omega)).trans h4, (hb.cell (by simp; omega)).trans h5, (hb.cell (by simp; omega)).trans h6, Nat.le_trans h7 hb.size, h8.trans (hb.mono h7)⟩
theorem PrevT.drew {V W0 : World} {a : Nat} {x y : Int} {d : Bool} {p : Addr} {x' y' : Int} {d' : Bool} (h : PrevT V W0 a x y d p x' y' d') : PrevT V W0.drew a x y d p x' y' d' := ⟨h.1, h.2.1, h.2.2.1, h.2.2.2.1, h.2.2.2.2.1, h.2.2.2.2.2.1, h.2.2.2.2.2.2.1, h.2.2.2.2.2.2.2.drew⟩

set_option maxRecDepth 100000 in
set_option maxHeartbeats 4000000 in
theorem IsPartial_yes (u v : Value) (zs : List Int) (ls : List Lk) (B : Nat) (w : World) (hu : RdI w B u zs) (h : RdF elDomino w B v ls) (hB : B ≤ w.heap.size) (hok : regOkB zs = true) :
    Calls Try.prog 134 #[.agg #[u], v] w fun e w' => e = .returned (.bool (partB (setZ zs) ls)) ∧ Below w.heap.size w w' := by
  have HU := Lib.hid hu
  obtain ⟨A0, c0, rfl, g10, g20, _⟩ := hu
  obtain ⟨A, c, rfl, g1, g2, G3⟩ := RdT.of (E := elDomino) rfl (fun _ => rfl) h
  unfold maxLen at g2 g20
  clear h
  have HOK := Lib.hid hok
  have HRL := Lib.hid (lftTo_lt (setZ_lt hok) ls)
  generalize hr : partB (setZ zs) ls = r
  have HR : Hid (upFrom (pAt (setZ zs) ls) 0 ls.length = r) := hr
  clear hr hok
  obtain ⟨R, HS⟩ : ∃ R : Nat, Hid (setZ zs = R) := ⟨_, rfl⟩
  rw [HS.out] at HR HRL
  obtain ⟨W, hW, k1, hb⟩ := one_alloc w (.cells #[.slice A0 zs.length c0] 39)
  have HW := Lib.hid hW
  have HB := Lib.hid hb
  have HK1 := Lib.hid k1
  have c1 : W.cell? ⟨w.heap.size, 0, none⟩ = some (.slice A0 zs.length c0) := by rw [blk_cell k1]; rfl
  clear hW k1 hb
  go_enter Try.func134, Try.ntmps134
  go_wp2_with fail
  rw [← HW.out]
  refine (RegionOk_any _ zs B _ (HU.out.below (HB.out.mono hB)) (Nat.le_trans hB HB.out.size)).mono ?_
  rintro e w1 ⟨rfl, hb1⟩
  rw [HOK.out]
  have HB1 := Lib.hid (HB.out.trans (hb1.mono HB.out.size))
  have hc1 : w1.cell? ⟨w.heap.size, 0, none⟩ = some (.slice A0 zs.length c0) := by rw [blk_cell (blk_below HK1.out hb1)]; rfl
  clear c1 hb1
  go_wp2_with fail
  refine (rset_any _ zs B _ (HU.out.below (HB1.out.mono hB)) (Nat.le_trans hB HB1.out.size) HOK.out).mono ?_
  rintro e w2 ⟨rfl, hb2⟩
  rw [HS.out]
  have HB2 := Lib.hid (HB1.out.trans (hb2.mono HB1.out.size))
  clear hc1 hb2
  go_wp2_with fail
  go_loopw [5, 15] (fun s i wr => ∃ k : Nat, k ≤ ls.length ∧ i = .int .i64 k ∧ s = .int .u64 (lftTo R ls k : Nat) ∧ Hid (upFrom (pAt R ls) k ls.length = r) ∧ Hid (Below w.heap.size w wr)) (fun _ i _ => ls.length - (intOf i).toNat)
  case atStart => exact ⟨0, Nat.zero_le _, rfl, rfl, HR, HB2⟩
  case round =>
    obtain ⟨k, hk, rfl, rfl, HE, HBr⟩ := hrel
    by_cases hlt : k < ls.length
    · obtain ⟨ad, rfl, hbl, hx, hy, hz⟩ := G3.out k hlt
      have hbl2 : (ad.add (k * 3)).block < w.heap.size := by rw [addBlock]; omega
      have hx' := (HBr.out.cell (p := ad.add (k * 3)) hbl2).trans hx
      have hy' := (HBr.out.cell (p := ⟨(ad.add (k * 3)).block, (ad.add (k * 3)).off + 1, none⟩) hbl2).trans hy
      have hz' := (HBr.out.cell (p := ⟨(ad.add (k * 3)).block, (ad.add (k * 3)).off + 2, none⟩) hbl2).trans hz
      have HP := Lib.hid (upFrom_step (pAt R ls) k ls.length hlt)
      have HPA : Hid (pAt R ls k = (domB (lx ls k) (ly ls k) (ld ls k) && (lftTo R ls k &&& dM (lx ls k, ly ls k, ld ls k) == dM (lx ls k, ly ls k, ld ls k)) && (decide (k = 0) || domLt (dAt ls (k - 1)) (lx ls k, ly ls k, ld ls k)))) := rfl
      have HT : Hid (lftTo R ls (k + 1) = lftTo R ls k &&& (18446744073709551615 - dM (lx ls k, ly ls k, ld ls k))) := rfl
      have HLL := Lib.hid (HRL.out k)
      have HDL := Lib.hid (fun h => dM_lt (l := (lx ls k, ly ls k, ld ls k)) h)
      have HDS := Lib.hid (fun V h => dset_Z (lx ls k) (ly ls k) (ld ls k) V h)
      generalize lx ls k = x at *
      generalize ly ls k = y at *
      generalize ld ls k = d at *
      clear hx hy hz
      have hk0 : (0 : Int) ≤ (k : Int) := by omega
      have hk1 : (k : Int) < (ls.length : Int) := by omega
      go_wp2_with fail
      obtain ⟨V, hV, k1, hbV⟩ := one_alloc wr (triO x y d 46)
      rw [← hV]
      have HT0 := Lib.hid (OneT.of k1)
      have L1 := Lib.hid (lt_of_block k1)
      have HBV := Lib.hid (HBr.out.trans (hbV.mono HBr.out.size))
      clear hV k1 hbV hx' hy' hz'
      cases hd : domB x y d
      · -- no domino
        have HF : Hid (r = false) := by unfold Hid; rw [← HE.out, HP.out, HPA.out, hd]; rfl
        have H1 := Lib.hid hd
        clear HPA HP HT hd
        refine wp_region_held_drew (S := fun w' => OneT V w' wr.heap.size x y d) (by kernel_rfl) (by exact HT0.out.drew) (fun hHeld => ?_)
        refine wpAnyH_take (i := 0) (oi := ⟨_, _, _, _, _, _⟩) (v := ?vap4129q0) rfl (by kernel_rfl) (by kernel_rfl) (by kernel_rfl) (fun _ _ _ h => h) (Or.inl ⟨by rfl, ?hap4129q0⟩) (by assumption) ?_
        case hap4129q0 => (intro w hSw; (try dsimp only at hSw); go_simp; try with_reducible rfl)
        try simp only [Act.put, List.setIfInBounds_toArray, List.set_cons_zero, List.set_cons_succ]
        refine wpAnyH_ready (rs := [1]) (by kernel_rfl) (by simp) ?_
        refine AllReadyH.cons (o := ⟨_, _, _, _, _, _⟩) rfl (fun K hK => ?_) AllReadyH.nil
        go_simp; go_at_call 129; refine (DominoOk_any x y d _).mono ?_; rintro e w3 ⟨rfl, hb3⟩; rw [H1.out]
        refine hK.out _ _ (by exact OneT.keep hb3 L1.out (by assumption)) (fun hHeld => ?_)
        clear hK K
        try simp only [Act.put, List.setIfInBounds_toArray, List.set_cons_zero, List.set_cons_succ]
        refine wpAnyH_take (i := 2) (oi := ⟨_, _, _, _, _, _⟩) (v := ?vap4129q2) rfl (by kernel_rfl) (by kernel_rfl) (by kernel_rfl) (fun _ _ _ h => h) (Or.inl ⟨by rfl, ?hap4129q2⟩) (by assumption) ?_
        case hap4129q2 => (intro w hSw; (try dsimp only at hSw); go_simp; try with_reducible rfl)
        try simp only [Act.put, List.setIfInBounds_toArray, List.set_cons_zero, List.set_cons_succ]
        refine wpAnyH_take (i := 3) (oi := ⟨_, _, _, _, _, _⟩) (v := ?vap4129q3) rfl (by kernel_rfl) (by kernel_rfl) (by kernel_rfl) (fun _ _ _ h => h) (Or.inl ⟨by rfl, ?hap4129q3⟩) (by assumption) ?_
        case hap4129q3 => (intro w hSw; (try dsimp only at hSw); go_simp; try with_reducible rfl)
        try simp only [Act.put, List.setIfInBounds_toArray, List.set_cons_zero, List.set_cons_succ]
        refine wpAnyH_take (i := 4) (oi := ⟨_, _, _, _, _, _⟩) (v := undef) rfl (by kernel_rfl) (by kernel_rfl) (by kernel_rfl) (fun _ _ _ h => h) (Or.inr ⟨by rfl, rfl⟩) (by assumption) ?_
        try simp only [Act.put, List.setIfInBounds_toArray, List.set_cons_zero, List.set_cons_succ]
        refine wpAnyH_take (i := 5) (oi := ⟨_, _, _, _, _, _⟩) (v := undef) rfl (by kernel_rfl) (by kernel_rfl) (by kernel_rfl) (fun _ _ _ h => h) (Or.inr ⟨by rfl, rfl⟩) (by assumption) ?_
        try simp only [Act.put, List.setIfInBounds_toArray, List.set_cons_zero, List.set_cons_succ]
        refine wpAnyH_take (i := 6) (oi := ⟨_, _, _, _, _, _⟩) (v := undef) rfl (by kernel_rfl) (by kernel_rfl) (by kernel_rfl) (fun _ _ _ h => h) (Or.inr ⟨by rfl, rfl⟩) (by assumption) ?_
        try simp only [Act.put, List.setIfInBounds_toArray, List.set_cons_zero, List.set_cons_succ]
        refine wpAnyH_take (i := 7) (oi := ⟨_, _, _, _, _, _⟩) (v := undef) rfl (by kernel_rfl) (by kernel_rfl) (by kernel_rfl) (fun _ _ _ h => h) (Or.inr ⟨by rfl, rfl⟩) (by assumption) ?_
        try simp only [Act.put, List.setIfInBounds_toArray, List.set_cons_zero, List.set_cons_succ]
        refine wpAnyH_take (i := 8) (oi := ⟨_, _, _, _, _, _⟩) (v := undef) rfl (by kernel_rfl) (by kernel_rfl) (by kernel_rfl) (fun _ _ _ h => h) (Or.inr ⟨by rfl, rfl⟩) (by assumption) ?_
        try simp only [Act.put, List.setIfInBounds_toArray, List.set_cons_zero, List.set_cons_succ]
        refine wpAnyH_take (i := 9) (oi := ⟨_, _, _, _, _, _⟩) (v := undef) rfl (by kernel_rfl) (by kernel_rfl) (by kernel_rfl) (fun _ _ _ h => h) (Or.inr ⟨by rfl, rfl⟩) (by assumption) ?_
        try simp only [Act.put, List.setIfInBounds_toArray, List.set_cons_zero, List.set_cons_succ]
        refine wpAnyH_take (i := 10) (oi := ⟨_, _, _, _, _, _⟩) (v := undef) rfl (by kernel_rfl) (by kernel_rfl) (by kernel_rfl) (fun _ _ _ h => h) (Or.inr ⟨by rfl, rfl⟩) (by assumption) ?_
        try simp only [Act.put, List.setIfInBounds_toArray, List.set_cons_zero, List.set_cons_succ]
        refine wpAnyH_take (i := 11) (oi := ⟨_, _, _, _, _, _⟩) (v := ?vap4129q11) rfl (by kernel_rfl) (by kernel_rfl) (by kernel_rfl) (fun _ _ _ h => h) (Or.inl ⟨by rfl, ?hap4129q11⟩) (by assumption) ?_
        case hap4129q11 => (intro w hSw; (try dsimp only at hSw); go_simp; try with_reducible rfl)
        try simp only [Act.put, List.setIfInBounds_toArray, List.set_cons_zero, List.set_cons_succ]
        refine wpAnyH_take (i := 12) (oi := ⟨_, _, _, _, _, _⟩) (v := ?vap4129q12) rfl (by kernel_rfl) (by kernel_rfl) (by kernel_rfl) (fun _ _ _ h => h) (Or.inl ⟨by rfl, ?hap4129q12⟩) (by assumption) ?_
        case hap4129q12 => (intro w hSw; (try dsimp only at hSw); go_simp; try with_reducible rfl)
        try simp only [Act.put, List.setIfInBounds_toArray, List.set_cons_zero, List.set_cons_succ]
        refine wpAnyH_take (i := 13) (oi := ⟨_, _, _, _, _, _⟩) (v := undef) rfl (by kernel_rfl) (by kernel_rfl) (by kernel_rfl) (fun _ _ _ h => h) (Or.inr ⟨by rfl, rfl⟩) (by assumption) ?_
        try simp only [Act.put, List.setIfInBounds_toArray, List.set_cons_zero, List.set_cons_succ]
        refine wpAnyH_take (i := 14) (oi := ⟨_, _, _, _, _, _⟩) (v := undef) rfl (by kernel_rfl) (by kernel_rfl) (by kernel_rfl) (fun _ _ _ h => h) (Or.inr ⟨by rfl, rfl⟩) (by assumption) ?_
        try simp only [Act.put, List.setIfInBounds_toArray, List.set_cons_zero, List.set_cons_succ]
        refine wpAnyH_take (i := 15) (oi := ⟨_, _, _, _, _, _⟩) (v := undef) rfl (by kernel_rfl) (by kernel_rfl) (by kernel_rfl) (fun _ _ _ h => h) (Or.inr ⟨by rfl, rfl⟩) (by assumption) ?_
        try simp only [Act.put, List.setIfInBounds_toArray, List.set_cons_zero, List.set_cons_succ]
        refine wpAnyH_take (i := 16) (oi := ⟨_, _, _, _, _, _⟩) (v := undef) rfl (by kernel_rfl) (by kernel_rfl) (by kernel_rfl) (fun _ _ _ h => h) (Or.inr ⟨by rfl, rfl⟩) (by assumption) ?_
        try simp only [Act.put, List.setIfInBounds_toArray, List.set_cons_zero, List.set_cons_succ]
        refine wpAnyH_take (i := 17) (oi := ⟨_, _, _, _, _, _⟩) (v := undef) rfl (by kernel_rfl) (by kernel_rfl) (by kernel_rfl) (fun _ _ _ h => h) (Or.inr ⟨by rfl, rfl⟩) (by assumption) ?_
        try simp only [Act.put, List.setIfInBounds_toArray, List.set_cons_zero, List.set_cons_succ]
        refine wpAnyH_take (i := 18) (oi := ⟨_, _, _, _, _, _⟩) (v := undef) rfl (by kernel_rfl) (by kernel_rfl) (by kernel_rfl) (fun _ _ _ h => h) (Or.inr ⟨by rfl, rfl⟩) (by assumption) ?_
        try simp only [Act.put, List.setIfInBounds_toArray, List.set_cons_zero, List.set_cons_succ]
        refine wpAnyH_take (i := 19) (oi := ⟨_, _, _, _, _, _⟩) (v := undef) rfl (by kernel_rfl) (by kernel_rfl) (by kernel_rfl) (fun _ _ _ h => h) (Or.inr ⟨by rfl, rfl⟩) (by assumption) ?_
        try simp only [Act.put, List.setIfInBounds_toArray, List.set_cons_zero, List.set_cons_succ]
        refine wpAnyH_take (i := 20) (oi := ⟨_, _, _, _, _, _⟩) (v := undef) rfl (by kernel_rfl) (by kernel_rfl) (by kernel_rfl) (fun _ _ _ h => h) (Or.inr ⟨by rfl, rfl⟩) (by assumption) ?_
        try simp only [Act.put, List.setIfInBounds_toArray, List.set_cons_zero, List.set_cons_succ]
        refine wpAnyH_take (i := 21) (oi := ⟨_, _, _, _, _, _⟩) (v := undef) rfl (by kernel_rfl) (by kernel_rfl) (by kernel_rfl) (fun _ _ _ h => h) (Or.inr ⟨by rfl, rfl⟩) (by assumption) ?_
        try simp only [Act.put, List.setIfInBounds_toArray, List.set_cons_zero, List.set_cons_succ]
        refine wpAnyH_take (i := 22) (oi := ⟨_, _, _, _, _, _⟩) (v := undef) rfl (by kernel_rfl) (by kernel_rfl) (by kernel_rfl) (fun _ _ _ h => h) (Or.inr ⟨by rfl, rfl⟩) (by assumption) ?_
        try simp only [Act.put, List.setIfInBounds_toArray, List.set_cons_zero, List.set_cons_succ]
        refine wpAnyH_take (i := 23) (oi := ⟨_, _, _, _, _, _⟩) (v := undef) rfl (by kernel_rfl) (by kernel_rfl) (by kernel_rfl) (fun _ _ _ h => h) (Or.inr ⟨by rfl, rfl⟩) (by assumption) ?_
        try simp only [Act.put, List.setIfInBounds_toArray, List.set_cons_zero, List.set_cons_succ]
        refine wpAnyH_take (i := 24) (oi := ⟨_, _, _, _, _, _⟩) (v := undef) rfl (by kernel_rfl) (by kernel_rfl) (by kernel_rfl) (fun _ _ _ h => h) (Or.inr ⟨by rfl, rfl⟩) (by assumption) ?_
        try simp only [Act.put, List.setIfInBounds_toArray, List.set_cons_zero, List.set_cons_succ]
        refine wpAnyH_take (i := 25) (oi := ⟨_, _, _, _, _, _⟩) (v := ?vap4129q25) rfl (by kernel_rfl) (by kernel_rfl) (by kernel_rfl) (fun _ _ _ h => h) (Or.inl ⟨by rfl, ?hap4129q25⟩) (by assumption) ?_
        case hap4129q25 => (intro w hSw; (try dsimp only at hSw); go_simp; try with_reducible rfl)
        try simp only [Act.put, List.setIfInBounds_toArray, List.set_cons_zero, List.set_cons_succ]
        refine wpAnyH_done (by kernel_rfl) ?_ _
        have HB3 := Lib.hid (HBV.out.trans ((show OneT V w3 wr.heap.size x y d from by assumption).2.2.2.2.mono HBV.out.size))
        go_wp2_with fail
        go_ret
        exact ⟨ret_bool HF.out.symm, HB3.out⟩
      · have H1 := Lib.hid hd
        have HDX := Lib.hid (HDL.out hd)
        have HSX := Lib.hid fun U => HDS.out U hd
        have HAN := Lib.hid (u64_and_nat _ _ HLL.out HDX.out)
        have HNN := Lib.hid (u64_andNot_nat _ _ HLL.out HDX.out)
        obtain ⟨M, HM⟩ : ∃ M : Nat, Hid (dM (x, y, d) = M) := ⟨_, rfl⟩
        rw [HM.out] at HPA HT HDX HSX HAN HNN
        generalize hL : lftTo R ls k = L at *
        have HLE := Lib.hid hL
        clear hL HDL HDS
        cases hm : (L &&& M == M)
        · have HF : Hid (r = false) := by unfold Hid; rw [← HE.out, HP.out, HPA.out, hd, hm]; rfl
          have hmi : (bits .and .u64 (L : Int) (M : Int) != (M : Int)) = true := by rw [HAN.out]; rw [beq_eq_false_iff_ne] at hm; rw [bne_iff_ne]; omega
          clear HPA HP hd hm
          refine wp_region_held_drew (S := fun w' => OneT V w' wr.heap.size x y d) (by kernel_rfl) (by exact HT0.out.drew) (fun hHeld => ?_)
          refine wpAnyH_take (i := 0) (oi := ⟨_, _, _, _, _, _⟩) (v := ?vap4130q0) rfl (by kernel_rfl) (by kernel_rfl) (by kernel_rfl) (fun _ _ _ h => h) (Or.inl ⟨by rfl, ?hap4130q0⟩) (by assumption) ?_
          case hap4130q0 => (intro w hSw; (try dsimp only at hSw); go_simp; try with_reducible rfl)
          try simp only [Act.put, List.setIfInBounds_toArray, List.set_cons_zero, List.set_cons_succ]
          refine wpAnyH_ready (rs := [1]) (by kernel_rfl) (by simp) ?_
          refine AllReadyH.cons (o := ⟨_, _, _, _, _, _⟩) rfl (fun K hK => ?_) AllReadyH.nil
          go_simp; go_at_call 129; refine (DominoOk_any x y d _).mono ?_; rintro e w3 ⟨rfl, hb3⟩; rw [H1.out]
          refine hK.out _ _ (by exact OneT.keep hb3 L1.out (by assumption)) (fun hHeld => ?_)
          clear hK K
          try simp only [Act.put, List.setIfInBounds_toArray, List.set_cons_zero, List.set_cons_succ]
          refine wpAnyH_take (i := 2) (oi := ⟨_, _, _, _, _, _⟩) (v := ?vap4130q2) rfl (by kernel_rfl) (by kernel_rfl) (by kernel_rfl) (fun _ _ _ h => h) (Or.inl ⟨by rfl, ?hap4130q2⟩) (by assumption) ?_
          case hap4130q2 => (intro w hSw; (try dsimp only at hSw); go_simp; try with_reducible rfl)
          try simp only [Act.put, List.setIfInBounds_toArray, List.set_cons_zero, List.set_cons_succ]
          refine wpAnyH_take (i := 3) (oi := ⟨_, _, _, _, _, _⟩) (v := ?vap4130q3) rfl (by kernel_rfl) (by kernel_rfl) (by kernel_rfl) (fun _ _ _ h => h) (Or.inl ⟨by rfl, ?hap4130q3⟩) (by assumption) ?_
          case hap4130q3 => (intro w hSw; (try dsimp only at hSw); go_simp; try with_reducible rfl)
          try simp only [Act.put, List.setIfInBounds_toArray, List.set_cons_zero, List.set_cons_succ]
          refine wpAnyH_take (i := 4) (oi := ⟨_, _, _, _, _, _⟩) (v := ?vap4130q4) rfl (by kernel_rfl) (by kernel_rfl) (by kernel_rfl) (fun _ _ _ h => h) (Or.inl ⟨by rfl, ?hap4130q4⟩) (by assumption) ?_
          case hap4130q4 => (intro w hSw; (try dsimp only at hSw); go_simp; try with_reducible rfl)
          try simp only [Act.put, List.setIfInBounds_toArray, List.set_cons_zero, List.set_cons_succ]
          refine wpAnyH_take (i := 5) (oi := ⟨_, _, _, _, _, _⟩) (v := ?vap4130q5) rfl (by kernel_rfl) (by kernel_rfl) (by kernel_rfl) (fun _ _ _ h => h) (Or.inl ⟨by rfl, ?hap4130q5⟩) (by assumption) ?_
          case hap4130q5 => (intro w hSw; (try dsimp only at hSw); go_simp; try with_reducible rfl)
          try simp only [Act.put, List.setIfInBounds_toArray, List.set_cons_zero, List.set_cons_succ]
          refine wpAnyH_take (i := 8) (oi := ⟨_, _, _, _, _, _⟩) (v := ?vap4130q8) rfl (by kernel_rfl) (by kernel_rfl) (by kernel_rfl) (fun _ _ _ h => h) (Or.inl ⟨by rfl, ?hap4130q8⟩) (by assumption) ?_
          case hap4130q8 => (intro w hSw; (try dsimp only at hSw); go_simp; try with_reducible rfl)
          try simp only [Act.put, List.setIfInBounds_toArray, List.set_cons_zero, List.set_cons_succ]
          refine wpAnyH_ready (rs := [6]) (by kernel_rfl) (by simp) ?_
          refine AllReadyH.cons (o := ⟨_, _, _, _, _, _⟩) rfl (fun K hK => ?_) AllReadyH.nil
          go_simp; go_at_call 130; refine (HSX.out _).mono ?_; rintro e w3 ⟨rfl, hb3⟩
          refine hK.out _ _ (by exact OneT.keep hb3 L1.out (by assumption)) (fun hHeld => ?_)
          clear hK K
          try simp only [Act.put, List.setIfInBounds_toArray, List.set_cons_zero, List.set_cons_succ]
          refine wpAnyH_take (i := 7) (oi := ⟨_, _, _, _, _, _⟩) (v := ?vap4130q7) rfl (by kernel_rfl) (by kernel_rfl) (by kernel_rfl) (fun _ _ _ h => h) (Or.inl ⟨by rfl, ?hap4130q7⟩) (by assumption) ?_
          case hap4130q7 => (intro w hSw; (try dsimp only at hSw); go_simp; try with_reducible rfl)
          try simp only [Act.put, List.setIfInBounds_toArray, List.set_cons_zero, List.set_cons_succ]
          refine wpAnyH_ready (rs := [9]) (by kernel_rfl) (by simp) ?_
          refine AllReadyH.cons (o := ⟨_, _, _, _, _, _⟩) rfl (fun K hK => ?_) AllReadyH.nil
          go_simp; go_at_call 130; refine (HSX.out _).mono ?_; rintro e w3 ⟨rfl, hb3⟩
          refine hK.out _ _ (by exact OneT.keep hb3 L1.out (by assumption)) (fun hHeld => ?_)
          clear hK K
          try simp only [Act.put, List.setIfInBounds_toArray, List.set_cons_zero, List.set_cons_succ]
          refine wpAnyH_take (i := 10) (oi := ⟨_, _, _, _, _, _⟩) (v := ?vap4130q10) rfl (by kernel_rfl) (by kernel_rfl) (by kernel_rfl) (fun _ _ _ h => h) (Or.inl ⟨by rfl, ?hap4130q10⟩) (by assumption) ?_
          case hap4130q10 => (intro w hSw; (try dsimp only at hSw); go_simp; try with_reducible rfl)
          try simp only [Act.put, List.setIfInBounds_toArray, List.set_cons_zero, List.set_cons_succ]
          refine wpAnyH_take (i := 11) (oi := ⟨_, _, _, _, _, _⟩) (v := ?vap4130q11) rfl (by kernel_rfl) (by kernel_rfl) (by kernel_rfl) (fun _ _ _ h => h) (Or.inl ⟨by rfl, ?hap4130q11⟩) (by assumption) ?_
          case hap4130q11 => (intro w hSw; (try dsimp only at hSw); go_simp; try with_reducible rfl)
          try simp only [Act.put, List.setIfInBounds_toArray, List.set_cons_zero, List.set_cons_succ]
          refine wpAnyH_take (i := 12) (oi := ⟨_, _, _, _, _, _⟩) (v := ?vap4130q12) rfl (by kernel_rfl) (by kernel_rfl) (by kernel_rfl) (fun _ _ _ h => h) (Or.inl ⟨by rfl, ?hap4130q12⟩) (by assumption) ?_
          case hap4130q12 => (intro w hSw; (try dsimp only at hSw); go_simp; try with_reducible rfl)
          try simp only [Act.put, List.setIfInBounds_toArray, List.set_cons_zero, List.set_cons_succ]
          refine wpAnyH_take (i := 13) (oi := ⟨_, _, _, _, _, _⟩) (v := undef) rfl (by kernel_rfl) (by kernel_rfl) (by kernel_rfl) (fun _ _ _ h => h) (Or.inr ⟨by rfl, rfl⟩) (by assumption) ?_
          try simp only [Act.put, List.setIfInBounds_toArray, List.set_cons_zero, List.set_cons_succ]
          refine wpAnyH_take (i := 14) (oi := ⟨_, _, _, _, _, _⟩) (v := undef) rfl (by kernel_rfl) (by kernel_rfl) (by kernel_rfl) (fun _ _ _ h => h) (Or.inr ⟨by rfl, rfl⟩) (by assumption) ?_
          try simp only [Act.put, List.setIfInBounds_toArray, List.set_cons_zero, List.set_cons_succ]
          refine wpAnyH_take (i := 15) (oi := ⟨_, _, _, _, _, _⟩) (v := undef) rfl (by kernel_rfl) (by kernel_rfl) (by kernel_rfl) (fun _ _ _ h => h) (Or.inr ⟨by rfl, rfl⟩) (by assumption) ?_
          try simp only [Act.put, List.setIfInBounds_toArray, List.set_cons_zero, List.set_cons_succ]
          refine wpAnyH_take (i := 16) (oi := ⟨_, _, _, _, _, _⟩) (v := undef) rfl (by kernel_rfl) (by kernel_rfl) (by kernel_rfl) (fun _ _ _ h => h) (Or.inr ⟨by rfl, rfl⟩) (by assumption) ?_
          try simp only [Act.put, List.setIfInBounds_toArray, List.set_cons_zero, List.set_cons_succ]
          refine wpAnyH_take (i := 17) (oi := ⟨_, _, _, _, _, _⟩) (v := undef) rfl (by kernel_rfl) (by kernel_rfl) (by kernel_rfl) (fun _ _ _ h => h) (Or.inr ⟨by rfl, rfl⟩) (by assumption) ?_
          try simp only [Act.put, List.setIfInBounds_toArray, List.set_cons_zero, List.set_cons_succ]
          refine wpAnyH_take (i := 18) (oi := ⟨_, _, _, _, _, _⟩) (v := undef) rfl (by kernel_rfl) (by kernel_rfl) (by kernel_rfl) (fun _ _ _ h => h) (Or.inr ⟨by rfl, rfl⟩) (by assumption) ?_
          try simp only [Act.put, List.setIfInBounds_toArray, List.set_cons_zero, List.set_cons_succ]
          refine wpAnyH_take (i := 19) (oi := ⟨_, _, _, _, _, _⟩) (v := undef) rfl (by kernel_rfl) (by kernel_rfl) (by kernel_rfl) (fun _ _ _ h => h) (Or.inr ⟨by rfl, rfl⟩) (by assumption) ?_
          try simp only [Act.put, List.setIfInBounds_toArray, List.set_cons_zero, List.set_cons_succ]
          refine wpAnyH_take (i := 20) (oi := ⟨_, _, _, _, _, _⟩) (v := undef) rfl (by kernel_rfl) (by kernel_rfl) (by kernel_rfl) (fun _ _ _ h => h) (Or.inr ⟨by rfl, rfl⟩) (by assumption) ?_
          try simp only [Act.put, List.setIfInBounds_toArray, List.set_cons_zero, List.set_cons_succ]
          refine wpAnyH_take (i := 21) (oi := ⟨_, _, _, _, _, _⟩) (v := undef) rfl (by kernel_rfl) (by kernel_rfl) (by kernel_rfl) (fun _ _ _ h => h) (Or.inr ⟨by rfl, rfl⟩) (by assumption) ?_
          try simp only [Act.put, List.setIfInBounds_toArray, List.set_cons_zero, List.set_cons_succ]
          refine wpAnyH_take (i := 22) (oi := ⟨_, _, _, _, _, _⟩) (v := undef) rfl (by kernel_rfl) (by kernel_rfl) (by kernel_rfl) (fun _ _ _ h => h) (Or.inr ⟨by rfl, rfl⟩) (by assumption) ?_
          try simp only [Act.put, List.setIfInBounds_toArray, List.set_cons_zero, List.set_cons_succ]
          refine wpAnyH_take (i := 23) (oi := ⟨_, _, _, _, _, _⟩) (v := undef) rfl (by kernel_rfl) (by kernel_rfl) (by kernel_rfl) (fun _ _ _ h => h) (Or.inr ⟨by rfl, rfl⟩) (by assumption) ?_
          try simp only [Act.put, List.setIfInBounds_toArray, List.set_cons_zero, List.set_cons_succ]
          refine wpAnyH_take (i := 24) (oi := ⟨_, _, _, _, _, _⟩) (v := undef) rfl (by kernel_rfl) (by kernel_rfl) (by kernel_rfl) (fun _ _ _ h => h) (Or.inr ⟨by rfl, rfl⟩) (by assumption) ?_
          try simp only [Act.put, List.setIfInBounds_toArray, List.set_cons_zero, List.set_cons_succ]
          refine wpAnyH_take (i := 25) (oi := ⟨_, _, _, _, _, _⟩) (v := ?vap4130q25) rfl (by kernel_rfl) (by kernel_rfl) (by kernel_rfl) (fun _ _ _ h => h) (Or.inl ⟨by rfl, ?hap4130q25⟩) (by assumption) ?_
          case hap4130q25 => (intro w hSw; (try dsimp only at hSw); go_simp; try with_reducible rfl)
          try simp only [Act.put, List.setIfInBounds_toArray, List.set_cons_zero, List.set_cons_succ]
          refine wpAnyH_done (by kernel_rfl) ?_ _
          have HB3 := Lib.hid (HBV.out.trans ((show OneT V _ wr.heap.size x y d from by assumption).2.2.2.2.mono HBV.out.size))
          go_wp2_with fail
          go_ret
          exact ⟨ret_bool HF.out.symm, HB3.out⟩
        · have hmi : (bits .and .u64 (L : Int) (M : Int) != (M : Int)) = false := by rw [HAN.out]; rw [beq_iff_eq] at hm; rw [hm]; simp
          rcases Nat.eq_zero_or_pos k with hk0' | hk0'
          · have t0 : decide (0 < k) = false := by simp; omega
            have HEE : Hid (upFrom (pAt R ls) (k + 1) ls.length = r) := by unfold Hid; rw [← HE.out, HP.out, HPA.out, hd, hm, hk0']; rfl
            clear HPA HP hd hm hk0' HE
            refine wp_region_held_drew (S := fun w' => OneT V w' wr.heap.size x y d) (by kernel_rfl) (by exact HT0.out.drew) (fun hHeld => ?_)
            refine wpAnyH_take (i := 0) (oi := ⟨_, _, _, _, _, _⟩) (v := ?vap4131q0) rfl (by kernel_rfl) (by kernel_rfl) (by kernel_rfl) (fun _ _ _ h => h) (Or.inl ⟨by rfl, ?hap4131q0⟩) (by assumption) ?_
            case hap4131q0 => (intro w hSw; (try dsimp only at hSw); go_simp; try with_reducible rfl)
            try simp only [Act.put, List.setIfInBounds_toArray, List.set_cons_zero, List.set_cons_succ]
            refine wpAnyH_ready (rs := [1]) (by kernel_rfl) (by simp) ?_
            refine AllReadyH.cons (o := ⟨_, _, _, _, _, _⟩) rfl (fun K hK => ?_) AllReadyH.nil
            go_simp; go_at_call 129; refine (DominoOk_any x y d _).mono ?_; rintro e w3 ⟨rfl, hb3⟩; rw [H1.out]
            refine hK.out _ _ (by exact OneT.keep hb3 L1.out (by assumption)) (fun hHeld => ?_)
            clear hK K
            try simp only [Act.put, List.setIfInBounds_toArray, List.set_cons_zero, List.set_cons_succ]
            refine wpAnyH_take (i := 2) (oi := ⟨_, _, _, _, _, _⟩) (v := ?vap4131q2) rfl (by kernel_rfl) (by kernel_rfl) (by kernel_rfl) (fun _ _ _ h => h) (Or.inl ⟨by rfl, ?hap4131q2⟩) (by assumption) ?_
            case hap4131q2 => (intro w hSw; (try dsimp only at hSw); go_simp; try with_reducible rfl)
            try simp only [Act.put, List.setIfInBounds_toArray, List.set_cons_zero, List.set_cons_succ]
            refine wpAnyH_take (i := 3) (oi := ⟨_, _, _, _, _, _⟩) (v := ?vap4131q3) rfl (by kernel_rfl) (by kernel_rfl) (by kernel_rfl) (fun _ _ _ h => h) (Or.inl ⟨by rfl, ?hap4131q3⟩) (by assumption) ?_
            case hap4131q3 => (intro w hSw; (try dsimp only at hSw); go_simp; try with_reducible rfl)
            try simp only [Act.put, List.setIfInBounds_toArray, List.set_cons_zero, List.set_cons_succ]
            refine wpAnyH_take (i := 4) (oi := ⟨_, _, _, _, _, _⟩) (v := ?vap4131q4) rfl (by kernel_rfl) (by kernel_rfl) (by kernel_rfl) (fun _ _ _ h => h) (Or.inl ⟨by rfl, ?hap4131q4⟩) (by assumption) ?_
            case hap4131q4 => (intro w hSw; (try dsimp only at hSw); go_simp; try with_reducible rfl)
            try simp only [Act.put, List.setIfInBounds_toArray, List.set_cons_zero, List.set_cons_succ]
            refine wpAnyH_take (i := 5) (oi := ⟨_, _, _, _, _, _⟩) (v := ?vap4131q5) rfl (by kernel_rfl) (by kernel_rfl) (by kernel_rfl) (fun _ _ _ h => h) (Or.inl ⟨by rfl, ?hap4131q5⟩) (by assumption) ?_
            case hap4131q5 => (intro w hSw; (try dsimp only at hSw); go_simp; try with_reducible rfl)
            try simp only [Act.put, List.setIfInBounds_toArray, List.set_cons_zero, List.set_cons_succ]
            refine wpAnyH_take (i := 8) (oi := ⟨_, _, _, _, _, _⟩) (v := ?vap4131q8) rfl (by kernel_rfl) (by kernel_rfl) (by kernel_rfl) (fun _ _ _ h => h) (Or.inl ⟨by rfl, ?hap4131q8⟩) (by assumption) ?_
            case hap4131q8 => (intro w hSw; (try dsimp only at hSw); go_simp; try with_reducible rfl)
            try simp only [Act.put, List.setIfInBounds_toArray, List.set_cons_zero, List.set_cons_succ]
            refine wpAnyH_ready (rs := [6]) (by kernel_rfl) (by simp) ?_
            refine AllReadyH.cons (o := ⟨_, _, _, _, _, _⟩) rfl (fun K hK => ?_) AllReadyH.nil
            go_simp; go_at_call 130; refine (HSX.out _).mono ?_; rintro e w3 ⟨rfl, hb3⟩
            refine hK.out _ _ (by exact OneT.keep hb3 L1.out (by assumption)) (fun hHeld => ?_)
            clear hK K
            try simp only [Act.put, List.setIfInBounds_toArray, List.set_cons_zero, List.set_cons_succ]
            refine wpAnyH_take (i := 7) (oi := ⟨_, _, _, _, _, _⟩) (v := ?vap4131q7) rfl (by kernel_rfl) (by kernel_rfl) (by kernel_rfl) (fun _ _ _ h => h) (Or.inl ⟨by rfl, ?hap4131q7⟩) (by assumption) ?_
            case hap4131q7 => (intro w hSw; (try dsimp only at hSw); go_simp; try with_reducible rfl)
            try simp only [Act.put, List.setIfInBounds_toArray, List.set_cons_zero, List.set_cons_succ]
            refine wpAnyH_ready (rs := [9]) (by kernel_rfl) (by simp) ?_
            refine AllReadyH.cons (o := ⟨_, _, _, _, _, _⟩) rfl (fun K hK => ?_) AllReadyH.nil
            go_simp; go_at_call 130; refine (HSX.out _).mono ?_; rintro e w3 ⟨rfl, hb3⟩
            refine hK.out _ _ (by exact OneT.keep hb3 L1.out (by assumption)) (fun hHeld => ?_)
            clear hK K
            try simp only [Act.put, List.setIfInBounds_toArray, List.set_cons_zero, List.set_cons_succ]
            refine wpAnyH_take (i := 10) (oi := ⟨_, _, _, _, _, _⟩) (v := ?vap4131q10) rfl (by kernel_rfl) (by kernel_rfl) (by kernel_rfl) (fun _ _ _ h => h) (Or.inl ⟨by rfl, ?hap4131q10⟩) (by assumption) ?_
            case hap4131q10 => (intro w hSw; (try dsimp only at hSw); go_simp; try with_reducible rfl)
            try simp only [Act.put, List.setIfInBounds_toArray, List.set_cons_zero, List.set_cons_succ]
            refine wpAnyH_take (i := 11) (oi := ⟨_, _, _, _, _, _⟩) (v := ?vap4131q11) rfl (by kernel_rfl) (by kernel_rfl) (by kernel_rfl) (fun _ _ _ h => h) (Or.inl ⟨by rfl, ?hap4131q11⟩) (by assumption) ?_
            case hap4131q11 => (intro w hSw; (try dsimp only at hSw); go_simp; try with_reducible rfl)
            try simp only [Act.put, List.setIfInBounds_toArray, List.set_cons_zero, List.set_cons_succ]
            refine wpAnyH_take (i := 12) (oi := ⟨_, _, _, _, _, _⟩) (v := ?vap4131q12) rfl (by kernel_rfl) (by kernel_rfl) (by kernel_rfl) (fun _ _ _ h => h) (Or.inl ⟨by rfl, ?hap4131q12⟩) (by assumption) ?_
            case hap4131q12 => (intro w hSw; (try dsimp only at hSw); go_simp; try with_reducible rfl)
            try simp only [Act.put, List.setIfInBounds_toArray, List.set_cons_zero, List.set_cons_succ]
            refine wpAnyH_take (i := 13) (oi := ⟨_, _, _, _, _, _⟩) (v := ?vap4131q13) rfl (by kernel_rfl) (by kernel_rfl) (by kernel_rfl) (fun _ _ _ h => h) (Or.inl ⟨by rfl, ?hap4131q13⟩) (by assumption) ?_
            case hap4131q13 => (intro w hSw; (try dsimp only at hSw); go_simp; try with_reducible rfl)
            try simp only [Act.put, List.setIfInBounds_toArray, List.set_cons_zero, List.set_cons_succ]
            refine wpAnyH_take (i := 14) (oi := ⟨_, _, _, _, _, _⟩) (v := ?vap4131q14) rfl (by kernel_rfl) (by kernel_rfl) (by kernel_rfl) (fun _ _ _ h => h) (Or.inl ⟨by rfl, ?hap4131q14⟩) (by assumption) ?_
            case hap4131q14 => (intro w hSw; (try dsimp only at hSw); go_simp; try with_reducible rfl)
            try simp only [Act.put, List.setIfInBounds_toArray, List.set_cons_zero, List.set_cons_succ]
            refine wpAnyH_take (i := 15) (oi := ⟨_, _, _, _, _, _⟩) (v := ?vap4131q15) rfl (by kernel_rfl) (by kernel_rfl) (by kernel_rfl) (fun _ _ _ h => h) (Or.inl ⟨by rfl, ?hap4131q15⟩) (by assumption) ?_
            case hap4131q15 => (intro w hSw; (try dsimp only at hSw); go_simp; try with_reducible rfl)
            try simp only [Act.put, List.setIfInBounds_toArray, List.set_cons_zero, List.set_cons_succ]
            refine wpAnyH_take (i := 16) (oi := ⟨_, _, _, _, _, _⟩) (v := undef) rfl (by kernel_rfl) (by kernel_rfl) (by kernel_rfl) (fun _ _ _ h => h) (Or.inr ⟨by rfl, rfl⟩) (by assumption) ?_
            try simp only [Act.put, List.setIfInBounds_toArray, List.set_cons_zero, List.set_cons_succ]
            refine wpAnyH_take (i := 17) (oi := ⟨_, _, _, _, _, _⟩) (v := undef) rfl (by kernel_rfl) (by kernel_rfl) (by kernel_rfl) (fun _ _ _ h => h) (Or.inr ⟨by rfl, rfl⟩) (by assumption) ?_
            try simp only [Act.put, List.setIfInBounds_toArray, List.set_cons_zero, List.set_cons_succ]
            refine wpAnyH_take (i := 18) (oi := ⟨_, _, _, _, _, _⟩) (v := undef) rfl (by kernel_rfl) (by kernel_rfl) (by kernel_rfl) (fun _ _ _ h => h) (Or.inr ⟨by rfl, rfl⟩) (by assumption) ?_
            try simp only [Act.put, List.setIfInBounds_toArray, List.set_cons_zero, List.set_cons_succ]
            refine wpAnyH_take (i := 19) (oi := ⟨_, _, _, _, _, _⟩) (v := undef) rfl (by kernel_rfl) (by kernel_rfl) (by kernel_rfl) (fun _ _ _ h => h) (Or.inr ⟨by rfl, rfl⟩) (by assumption) ?_
            try simp only [Act.put, List.setIfInBounds_toArray, List.set_cons_zero, List.set_cons_succ]
            refine wpAnyH_take (i := 20) (oi := ⟨_, _, _, _, _, _⟩) (v := undef) rfl (by kernel_rfl) (by kernel_rfl) (by kernel_rfl) (fun _ _ _ h => h) (Or.inr ⟨by rfl, rfl⟩) (by assumption) ?_
            try simp only [Act.put, List.setIfInBounds_toArray, List.set_cons_zero, List.set_cons_succ]
            refine wpAnyH_take (i := 21) (oi := ⟨_, _, _, _, _, _⟩) (v := undef) rfl (by kernel_rfl) (by kernel_rfl) (by kernel_rfl) (fun _ _ _ h => h) (Or.inr ⟨by rfl, rfl⟩) (by assumption) ?_
            try simp only [Act.put, List.setIfInBounds_toArray, List.set_cons_zero, List.set_cons_succ]
            refine wpAnyH_take (i := 22) (oi := ⟨_, _, _, _, _, _⟩) (v := undef) rfl (by kernel_rfl) (by kernel_rfl) (by kernel_rfl) (fun _ _ _ h => h) (Or.inr ⟨by rfl, rfl⟩) (by assumption) ?_
            try simp only [Act.put, List.setIfInBounds_toArray, List.set_cons_zero, List.set_cons_succ]
            refine wpAnyH_take (i := 23) (oi := ⟨_, _, _, _, _, _⟩) (v := undef) rfl (by kernel_rfl) (by kernel_rfl) (by kernel_rfl) (fun _ _ _ h => h) (Or.inr ⟨by rfl, rfl⟩) (by assumption) ?_
            try simp only [Act.put, List.setIfInBounds_toArray, List.set_cons_zero, List.set_cons_succ]
            refine wpAnyH_take (i := 24) (oi := ⟨_, _, _, _, _, _⟩) (v := ?vap4131q24) rfl (by kernel_rfl) (by kernel_rfl) (by kernel_rfl) (fun _ _ _ h => h) (Or.inl ⟨by rfl, ?hap4131q24⟩) (by assumption) ?_
            case hap4131q24 => (intro w hSw; (try dsimp only at hSw); go_simp; try with_reducible rfl)
            try simp only [Act.put, List.setIfInBounds_toArray, List.set_cons_zero, List.set_cons_succ]
            refine wpAnyH_take (i := 25) (oi := ⟨_, _, _, _, _, _⟩) (v := ?vap4131q25) rfl (by kernel_rfl) (by kernel_rfl) (by kernel_rfl) (fun _ _ _ h => h) (Or.inl ⟨by rfl, ?hap4131q25⟩) (by assumption) ?_
            case hap4131q25 => (intro w hSw; (try dsimp only at hSw); go_simp; try with_reducible rfl)
            try simp only [Act.put, List.setIfInBounds_toArray, List.set_cons_zero, List.set_cons_succ]
            refine wpAnyH_done (by kernel_rfl) ?_ _
            have HB3 := Lib.hid (HBV.out.trans ((show OneT V _ wr.heap.size x y d from by assumption).2.2.2.2.mono HBV.out.size))
            obtain ⟨f0, f1, f2, _⟩ := (show OneT V _ wr.heap.size x y d from by assumption)
            go_wp2_with fail
            refine (HSX.out _).mono ?_
            rintro e w5 ⟨rfl, hb5⟩
            have HB5 := Lib.hid (HB3.out.trans (hb5.mono HB3.out.size))
            go_wp2_with fail
            go_roundw
            case rel => exact ⟨k + 1, by omega, by go_num, by rw [HT.out, HNN.out], HEE, HB5⟩
            case measure => simp [intOf]; omega
          · have t0 : decide (0 < k) = true := by simp; omega
            obtain ⟨ad2, he2, _, px, py, pz⟩ := G3.out (k - 1) (by omega)
            obtain rfl := Option.some.inj he2
            have L2 : Hid ((ad.add ((k - 1) * 3)).block < V.heap.size) := by unfold Hid; rw [addBlock]; have := HBV.out.size; omega
            have hblp : (ad.add ((k - 1) * 3)).block < w.heap.size := by rw [addBlock]; omega
            have HT1 : Hid (PrevT V V wr.heap.size x y d (ad.add ((k - 1) * 3)) (lx ls (k - 1)) (ly ls (k - 1)) (ld ls (k - 1))) :=
              ⟨HT0.out.1, HT0.out.2.1, HT0.out.2.2.1, (HBV.out.cell hblp).trans px, (HBV.out.cell (p := ⟨(ad.add ((k - 1) * 3)).block, (ad.add ((k - 1) * 3)).off + 1, none⟩) hblp).trans py, (HBV.out.cell (p := ⟨(ad.add ((k - 1) * 3)).block, (ad.add ((k - 1) * 3)).off + 2, none⟩) hblp).trans pz, Nat.le_refl _, Below.refl _ _⟩
            have HPQ : Hid (dAt ls (k - 1) = (lx ls (k - 1), ly ls (k - 1), ld ls (k - 1))) := rfl
            rw [HPQ.out] at HPA
            clear px py pz HPQ he2
            generalize lx ls (k - 1) = x' at *
            generalize ly ls (k - 1) = y' at *
            generalize ld ls (k - 1) = d' at *
            have hkz : ((k : Int) - 1).toNat = k - 1 := by omega
            have hkw : IntKind.i64.wrap ((k : Int) - 1) = (k : Int) - 1 := IntWalk.i64_in _ (by omega)
            have hk2 : (0 : Int) ≤ (k : Int) - 1 := by omega
            have hk4 : (1 : Int) ≤ (k : Int) := by omega
            have hk5 : 1 ≤ k := by omega
            have hk3 : (k : Int) - 1 < (ls.length : Int) := by omega
            have hd0 : decide (k = 0) = false := by simp; omega
            cases hb4 : domLt (x', y', d') (x, y, d)
            · have HB4 := Lib.hid hb4
              have HF : Hid (r = false) := by unfold Hid; rw [← HE.out, HP.out, HPA.out, hd, hm, hd0, hb4]; rfl
              clear HPA HP hd hm hk0' HE hb4 hd0
              refine wp_region_held_drew (S := fun w' => PrevT V w' wr.heap.size x y d (ad.add ((k - 1) * 3)) x' y' d') (by kernel_rfl) (by exact HT1.out.drew) (fun hHeld => ?_)
              refine wpAnyH_take (i := 0) (oi := ⟨_, _, _, _, _, _⟩) (v := ?vap4132q0) rfl (by kernel_rfl) (by kernel_rfl) (by kernel_rfl) (fun _ _ _ h => h) (Or.inl ⟨by rfl, ?hap4132q0⟩) (by assumption) ?_
              case hap4132q0 => (intro w hSw; (try dsimp only at hSw); go_simp; try with_reducible rfl)
              try simp only [Act.put, List.setIfInBounds_toArray, List.set_cons_zero, List.set_cons_succ]
              refine wpAnyH_ready (rs := [1]) (by kernel_rfl) (by simp) ?_
              refine AllReadyH.cons (o := ⟨_, _, _, _, _, _⟩) rfl (fun K hK => ?_) AllReadyH.nil
              go_simp; go_at_call 129; refine (DominoOk_any x y d _).mono ?_; rintro e w3 ⟨rfl, hb3⟩; rw [H1.out]
              refine hK.out _ _ (by exact PrevT.keep hb3 L1.out L2.out (by assumption)) (fun hHeld => ?_)
              clear hK K
              try simp only [Act.put, List.setIfInBounds_toArray, List.set_cons_zero, List.set_cons_succ]
              refine wpAnyH_take (i := 2) (oi := ⟨_, _, _, _, _, _⟩) (v := ?vap4132q2) rfl (by kernel_rfl) (by kernel_rfl) (by kernel_rfl) (fun _ _ _ h => h) (Or.inl ⟨by rfl, ?hap4132q2⟩) (by assumption) ?_
              case hap4132q2 => (intro w hSw; (try dsimp only at hSw); go_simp; try with_reducible rfl)
              try simp only [Act.put, List.setIfInBounds_toArray, List.set_cons_zero, List.set_cons_succ]
              refine wpAnyH_take (i := 3) (oi := ⟨_, _, _, _, _, _⟩) (v := ?vap4132q3) rfl (by kernel_rfl) (by kernel_rfl) (by kernel_rfl) (fun _ _ _ h => h) (Or.inl ⟨by rfl, ?hap4132q3⟩) (by assumption) ?_
              case hap4132q3 => (intro w hSw; (try dsimp only at hSw); go_simp; try with_reducible rfl)
              try simp only [Act.put, List.setIfInBounds_toArray, List.set_cons_zero, List.set_cons_succ]
              refine wpAnyH_take (i := 4) (oi := ⟨_, _, _, _, _, _⟩) (v := ?vap4132q4) rfl (by kernel_rfl) (by kernel_rfl) (by kernel_rfl) (fun _ _ _ h => h) (Or.inl ⟨by rfl, ?hap4132q4⟩) (by assumption) ?_
              case hap4132q4 => (intro w hSw; (try dsimp only at hSw); go_simp; try with_reducible rfl)
              try simp only [Act.put, List.setIfInBounds_toArray, List.set_cons_zero, List.set_cons_succ]
              refine wpAnyH_take (i := 5) (oi := ⟨_, _, _, _, _, _⟩) (v := ?vap4132q5) rfl (by kernel_rfl) (by kernel_rfl) (by kernel_rfl) (fun _ _ _ h => h) (Or.inl ⟨by rfl, ?hap4132q5⟩) (by assumption) ?_
              case hap4132q5 => (intro w hSw; (try dsimp only at hSw); go_simp; try with_reducible rfl)
              try simp only [Act.put, List.setIfInBounds_toArray, List.set_cons_zero, List.set_cons_succ]
              refine wpAnyH_take (i := 8) (oi := ⟨_, _, _, _, _, _⟩) (v := ?vap4132q8) rfl (by kernel_rfl) (by kernel_rfl) (by kernel_rfl) (fun _ _ _ h => h) (Or.inl ⟨by rfl, ?hap4132q8⟩) (by assumption) ?_
              case hap4132q8 => (intro w hSw; (try dsimp only at hSw); go_simp; try with_reducible rfl)
              try simp only [Act.put, List.setIfInBounds_toArray, List.set_cons_zero, List.set_cons_succ]
              refine wpAnyH_ready (rs := [6]) (by kernel_rfl) (by simp) ?_
              refine AllReadyH.cons (o := ⟨_, _, _, _, _, _⟩) rfl (fun K hK => ?_) AllReadyH.nil
              go_simp; go_at_call 130; refine (HSX.out _).mono ?_; rintro e w3 ⟨rfl, hb3⟩
              refine hK.out _ _ (by exact PrevT.keep hb3 L1.out L2.out (by assumption)) (fun hHeld => ?_)
              clear hK K
              try simp only [Act.put, List.setIfInBounds_toArray, List.set_cons_zero, List.set_cons_succ]
              refine wpAnyH_take (i := 7) (oi := ⟨_, _, _, _, _, _⟩) (v := ?vap4132q7) rfl (by kernel_rfl) (by kernel_rfl) (by kernel_rfl) (fun _ _ _ h => h) (Or.inl ⟨by rfl, ?hap4132q7⟩) (by assumption) ?_
              case hap4132q7 => (intro w hSw; (try dsimp only at hSw); go_simp; try with_reducible rfl)
              try simp only [Act.put, List.setIfInBounds_toArray, List.set_cons_zero, List.set_cons_succ]
              refine wpAnyH_ready (rs := [9]) (by kernel_rfl) (by simp) ?_
              refine AllReadyH.cons (o := ⟨_, _, _, _, _, _⟩) rfl (fun K hK => ?_) AllReadyH.nil
              go_simp; go_at_call 130; refine (HSX.out _).mono ?_; rintro e w3 ⟨rfl, hb3⟩
              refine hK.out _ _ (by exact PrevT.keep hb3 L1.out L2.out (by assumption)) (fun hHeld => ?_)
              clear hK K
              try simp only [Act.put, List.setIfInBounds_toArray, List.set_cons_zero, List.set_cons_succ]
              refine wpAnyH_take (i := 10) (oi := ⟨_, _, _, _, _, _⟩) (v := ?vap4132q10) rfl (by kernel_rfl) (by kernel_rfl) (by kernel_rfl) (fun _ _ _ h => h) (Or.inl ⟨by rfl, ?hap4132q10⟩) (by assumption) ?_
              case hap4132q10 => (intro w hSw; (try dsimp only at hSw); go_simp; try with_reducible rfl)
              try simp only [Act.put, List.setIfInBounds_toArray, List.set_cons_zero, List.set_cons_succ]
              refine wpAnyH_take (i := 11) (oi := ⟨_, _, _, _, _, _⟩) (v := ?vap4132q11) rfl (by kernel_rfl) (by kernel_rfl) (by kernel_rfl) (fun _ _ _ h => h) (Or.inl ⟨by rfl, ?hap4132q11⟩) (by assumption) ?_
              case hap4132q11 => (intro w hSw; (try dsimp only at hSw); go_simp; try with_reducible rfl)
              try simp only [Act.put, List.setIfInBounds_toArray, List.set_cons_zero, List.set_cons_succ]
              refine wpAnyH_take (i := 12) (oi := ⟨_, _, _, _, _, _⟩) (v := ?vap4132q12) rfl (by kernel_rfl) (by kernel_rfl) (by kernel_rfl) (fun _ _ _ h => h) (Or.inl ⟨by rfl, ?hap4132q12⟩) (by assumption) ?_
              case hap4132q12 => (intro w hSw; (try dsimp only at hSw); go_simp; try with_reducible rfl)
              try simp only [Act.put, List.setIfInBounds_toArray, List.set_cons_zero, List.set_cons_succ]
              refine wpAnyH_take (i := 13) (oi := ⟨_, _, _, _, _, _⟩) (v := ?vap4132q13) rfl (by kernel_rfl) (by kernel_rfl) (by kernel_rfl) (fun _ _ _ h => h) (Or.inl ⟨by rfl, ?hap4132q13⟩) (by assumption) ?_
              case hap4132q13 => (intro w hSw; (try dsimp only at hSw); go_simp; try with_reducible rfl)
              try simp only [Act.put, List.setIfInBounds_toArray, List.set_cons_zero, List.set_cons_succ]
              refine wpAnyH_take (i := 14) (oi := ⟨_, _, _, _, _, _⟩) (v := ?vap4132q14) rfl (by kernel_rfl) (by kernel_rfl) (by kernel_rfl) (fun _ _ _ h => h) (Or.inl ⟨by rfl, ?hap4132q14⟩) (by assumption) ?_
              case hap4132q14 => (intro w hSw; (try dsimp only at hSw); go_simp; try with_reducible rfl)
              try simp only [Act.put, List.setIfInBounds_toArray, List.set_cons_zero, List.set_cons_succ]
              refine wpAnyH_take (i := 15) (oi := ⟨_, _, _, _, _, _⟩) (v := ?vap4132q15) rfl (by kernel_rfl) (by kernel_rfl) (by kernel_rfl) (fun _ _ _ h => h) (Or.inl ⟨by rfl, ?hap4132q15⟩) (by assumption) ?_
              case hap4132q15 => (intro w hSw; (try dsimp only at hSw); go_simp; try with_reducible rfl)
              try simp only [Act.put, List.setIfInBounds_toArray, List.set_cons_zero, List.set_cons_succ]
              refine wpAnyH_take (i := 16) (oi := ⟨_, _, _, _, _, _⟩) (v := ?vap4132q16) rfl (by kernel_rfl) (by kernel_rfl) (by kernel_rfl) (fun _ _ _ h => h) (Or.inl ⟨by rfl, ?hap4132q16⟩) (by assumption) ?_
              case hap4132q16 => (intro w hSw; (try dsimp only at hSw); go_simp; try with_reducible rfl)
              try simp only [Act.put, List.setIfInBounds_toArray, List.set_cons_zero, List.set_cons_succ]
              refine wpAnyH_take (i := 17) (oi := ⟨_, _, _, _, _, _⟩) (v := ?vap4132q17) rfl (by kernel_rfl) (by kernel_rfl) (by kernel_rfl) (fun _ _ _ h => h) (Or.inl ⟨by rfl, ?hap4132q17⟩) (by assumption) ?_
              case hap4132q17 => (intro w hSw; (try dsimp only at hSw); go_simp; try with_reducible rfl)
              try simp only [Act.put, List.setIfInBounds_toArray, List.set_cons_zero, List.set_cons_succ]
              refine wpAnyH_take (i := 18) (oi := ⟨_, _, _, _, _, _⟩) (v := ?vap4132q18) rfl (by kernel_rfl) (by kernel_rfl) (by kernel_rfl) (fun _ _ _ h => h) (Or.inl ⟨by rfl, ?hap4132q18⟩) (by assumption) ?_
              case hap4132q18 => (intro w hSw; (try dsimp only at hSw); go_simp; try with_reducible rfl)
              try simp only [Act.put, List.setIfInBounds_toArray, List.set_cons_zero, List.set_cons_succ]
              refine wpAnyH_take (i := 19) (oi := ⟨_, _, _, _, _, _⟩) (v := ?vap4132q19) rfl (by kernel_rfl) (by kernel_rfl) (by kernel_rfl) (fun _ _ _ h => h) (Or.inl ⟨by rfl, ?hap4132q19⟩) (by assumption) ?_
              case hap4132q19 => (intro w hSw; (try dsimp only at hSw); go_simp; try with_reducible rfl)
              try simp only [Act.put, List.setIfInBounds_toArray, List.set_cons_zero, List.set_cons_succ]
              refine wpAnyH_take (i := 20) (oi := ⟨_, _, _, _, _, _⟩) (v := ?vap4132q20) rfl (by kernel_rfl) (by kernel_rfl) (by kernel_rfl) (fun _ _ _ h => h) (Or.inl ⟨by rfl, ?hap4132q20⟩) (by assumption) ?_
              case hap4132q20 => (intro w hSw; (try dsimp only at hSw); go_simp; try with_reducible rfl)
              try simp only [Act.put, List.setIfInBounds_toArray, List.set_cons_zero, List.set_cons_succ]
              refine wpAnyH_take (i := 21) (oi := ⟨_, _, _, _, _, _⟩) (v := ?vap4132q21) rfl (by kernel_rfl) (by kernel_rfl) (by kernel_rfl) (fun _ _ _ h => h) (Or.inl ⟨by rfl, ?hap4132q21⟩) (by assumption) ?_
              case hap4132q21 => (intro w hSw; (try dsimp only at hSw); go_simp; try with_reducible rfl)
              try simp only [Act.put, List.setIfInBounds_toArray, List.set_cons_zero, List.set_cons_succ]
              refine wpAnyH_ready (rs := [22]) (by kernel_rfl) (by simp) ?_
              refine AllReadyH.cons (o := ⟨_, _, _, _, _, _⟩) rfl (fun K hK => ?_) AllReadyH.nil
              go_simp; go_at_call 166; refine (Before_any x' y' d' x y d _).mono ?_; rintro e w3 ⟨rfl, hb3⟩; rw [HB4.out]
              refine hK.out _ _ (by exact PrevT.keep hb3 L1.out L2.out (by assumption)) (fun hHeld => ?_)
              clear hK K
              try simp only [Act.put, List.setIfInBounds_toArray, List.set_cons_zero, List.set_cons_succ]
              refine wpAnyH_take (i := 23) (oi := ⟨_, _, _, _, _, _⟩) (v := ?vap4132q23) rfl (by kernel_rfl) (by kernel_rfl) (by kernel_rfl) (fun _ _ _ h => h) (Or.inl ⟨by rfl, ?hap4132q23⟩) (by assumption) ?_
              case hap4132q23 => (intro w hSw; (try dsimp only at hSw); go_simp; try with_reducible rfl)
              try simp only [Act.put, List.setIfInBounds_toArray, List.set_cons_zero, List.set_cons_succ]
              refine wpAnyH_take (i := 24) (oi := ⟨_, _, _, _, _, _⟩) (v := ?vap4132q24) rfl (by kernel_rfl) (by kernel_rfl) (by kernel_rfl) (fun _ _ _ h => h) (Or.inl ⟨by rfl, ?hap4132q24⟩) (by assumption) ?_
              case hap4132q24 => (intro w hSw; (try dsimp only at hSw); go_simp; try with_reducible rfl)
              try simp only [Act.put, List.setIfInBounds_toArray, List.set_cons_zero, List.set_cons_succ]
              refine wpAnyH_take (i := 25) (oi := ⟨_, _, _, _, _, _⟩) (v := ?vap4132q25) rfl (by kernel_rfl) (by kernel_rfl) (by kernel_rfl) (fun _ _ _ h => h) (Or.inl ⟨by rfl, ?hap4132q25⟩) (by assumption) ?_
              case hap4132q25 => (intro w hSw; (try dsimp only at hSw); go_simp; try with_reducible rfl)
              try simp only [Act.put, List.setIfInBounds_toArray, List.set_cons_zero, List.set_cons_succ]
              refine wpAnyH_done (by kernel_rfl) ?_ _
              have HB3 := Lib.hid (HBV.out.trans ((show PrevT V _ wr.heap.size x y d (ad.add ((k - 1) * 3)) x' y' d' from by assumption).2.2.2.2.2.2.2.mono HBV.out.size))
              go_wp2_with fail
              go_ret
              exact ⟨ret_bool HF.out.symm, HB3.out⟩
            · have HB4 := Lib.hid hb4
              have HEE : Hid (upFrom (pAt R ls) (k + 1) ls.length = r) := by unfold Hid; rw [← HE.out, HP.out, HPA.out, hd, hm, hd0, hb4]; rfl
              clear HPA HP hd hm hk0' HE hb4 hd0
              refine wp_region_held_drew (S := fun w' => PrevT V w' wr.heap.size x y d (ad.add ((k - 1) * 3)) x' y' d') (by kernel_rfl) (by exact HT1.out.drew) (fun hHeld => ?_)
              refine wpAnyH_take (i := 0) (oi := ⟨_, _, _, _, _, _⟩) (v := ?vap4133q0) rfl (by kernel_rfl) (by kernel_rfl) (by kernel_rfl) (fun _ _ _ h => h) (Or.inl ⟨by rfl, ?hap4133q0⟩) (by assumption) ?_
              case hap4133q0 => (intro w hSw; (try dsimp only at hSw); go_simp; try with_reducible rfl)
              try simp only [Act.put, List.setIfInBounds_toArray, List.set_cons_zero, List.set_cons_succ]
              refine wpAnyH_ready (rs := [1]) (by kernel_rfl) (by simp) ?_
              refine AllReadyH.cons (o := ⟨_, _, _, _, _, _⟩) rfl (fun K hK => ?_) AllReadyH.nil
              go_simp; go_at_call 129; refine (DominoOk_any x y d _).mono ?_; rintro e w3 ⟨rfl, hb3⟩; rw [H1.out]
              refine hK.out _ _ (by exact PrevT.keep hb3 L1.out L2.out (by assumption)) (fun hHeld => ?_)
              clear hK K
              try simp only [Act.put, List.setIfInBounds_toArray, List.set_cons_zero, List.set_cons_succ]
              refine wpAnyH_take (i := 2) (oi := ⟨_, _, _, _, _, _⟩) (v := ?vap4133q2) rfl (by kernel_rfl) (by kernel_rfl) (by kernel_rfl) (fun _ _ _ h => h) (Or.inl ⟨by rfl, ?hap4133q2⟩) (by assumption) ?_
              case hap4133q2 => (intro w hSw; (try dsimp only at hSw); go_simp; try with_reducible rfl)
              try simp only [Act.put, List.setIfInBounds_toArray, List.set_cons_zero, List.set_cons_succ]
              refine wpAnyH_take (i := 3) (oi := ⟨_, _, _, _, _, _⟩) (v := ?vap4133q3) rfl (by kernel_rfl) (by kernel_rfl) (by kernel_rfl) (fun _ _ _ h => h) (Or.inl ⟨by rfl, ?hap4133q3⟩) (by assumption) ?_
              case hap4133q3 => (intro w hSw; (try dsimp only at hSw); go_simp; try with_reducible rfl)
              try simp only [Act.put, List.setIfInBounds_toArray, List.set_cons_zero, List.set_cons_succ]
              refine wpAnyH_take (i := 4) (oi := ⟨_, _, _, _, _, _⟩) (v := ?vap4133q4) rfl (by kernel_rfl) (by kernel_rfl) (by kernel_rfl) (fun _ _ _ h => h) (Or.inl ⟨by rfl, ?hap4133q4⟩) (by assumption) ?_
              case hap4133q4 => (intro w hSw; (try dsimp only at hSw); go_simp; try with_reducible rfl)
              try simp only [Act.put, List.setIfInBounds_toArray, List.set_cons_zero, List.set_cons_succ]
              refine wpAnyH_take (i := 5) (oi := ⟨_, _, _, _, _, _⟩) (v := ?vap4133q5) rfl (by kernel_rfl) (by kernel_rfl) (by kernel_rfl) (fun _ _ _ h => h) (Or.inl ⟨by rfl, ?hap4133q5⟩) (by assumption) ?_
              case hap4133q5 => (intro w hSw; (try dsimp only at hSw); go_simp; try with_reducible rfl)
              try simp only [Act.put, List.setIfInBounds_toArray, List.set_cons_zero, List.set_cons_succ]
              refine wpAnyH_take (i := 8) (oi := ⟨_, _, _, _, _, _⟩) (v := ?vap4133q8) rfl (by kernel_rfl) (by kernel_rfl) (by kernel_rfl) (fun _ _ _ h => h) (Or.inl ⟨by rfl, ?hap4133q8⟩) (by assumption) ?_
              case hap4133q8 => (intro w hSw; (try dsimp only at hSw); go_simp; try with_reducible rfl)
              try simp only [Act.put, List.setIfInBounds_toArray, List.set_cons_zero, List.set_cons_succ]
              refine wpAnyH_ready (rs := [6]) (by kernel_rfl) (by simp) ?_
              refine AllReadyH.cons (o := ⟨_, _, _, _, _, _⟩) rfl (fun K hK => ?_) AllReadyH.nil
              go_simp; go_at_call 130; refine (HSX.out _).mono ?_; rintro e w3 ⟨rfl, hb3⟩
              refine hK.out _ _ (by exact PrevT.keep hb3 L1.out L2.out (by assumption)) (fun hHeld => ?_)
              clear hK K
              try simp only [Act.put, List.setIfInBounds_toArray, List.set_cons_zero, List.set_cons_succ]
              refine wpAnyH_take (i := 7) (oi := ⟨_, _, _, _, _, _⟩) (v := ?vap4133q7) rfl (by kernel_rfl) (by kernel_rfl) (by kernel_rfl) (fun _ _ _ h => h) (Or.inl ⟨by rfl, ?hap4133q7⟩) (by assumption) ?_
              case hap4133q7 => (intro w hSw; (try dsimp only at hSw); go_simp; try with_reducible rfl)
              try simp only [Act.put, List.setIfInBounds_toArray, List.set_cons_zero, List.set_cons_succ]
              refine wpAnyH_ready (rs := [9]) (by kernel_rfl) (by simp) ?_
              refine AllReadyH.cons (o := ⟨_, _, _, _, _, _⟩) rfl (fun K hK => ?_) AllReadyH.nil
              go_simp; go_at_call 130; refine (HSX.out _).mono ?_; rintro e w3 ⟨rfl, hb3⟩
              refine hK.out _ _ (by exact PrevT.keep hb3 L1.out L2.out (by assumption)) (fun hHeld => ?_)
              clear hK K
              try simp only [Act.put, List.setIfInBounds_toArray, List.set_cons_zero, List.set_cons_succ]
              refine wpAnyH_take (i := 10) (oi := ⟨_, _, _, _, _, _⟩) (v := ?vap4133q10) rfl (by kernel_rfl) (by kernel_rfl) (by kernel_rfl) (fun _ _ _ h => h) (Or.inl ⟨by rfl, ?hap4133q10⟩) (by assumption) ?_
              case hap4133q10 => (intro w hSw; (try dsimp only at hSw); go_simp; try with_reducible rfl)
              try simp only [Act.put, List.setIfInBounds_toArray, List.set_cons_zero, List.set_cons_succ]
              refine wpAnyH_take (i := 11) (oi := ⟨_, _, _, _, _, _⟩) (v := ?vap4133q11) rfl (by kernel_rfl) (by kernel_rfl) (by kernel_rfl) (fun _ _ _ h => h) (Or.inl ⟨by rfl, ?hap4133q11⟩) (by assumption) ?_
              case hap4133q11 => (intro w hSw; (try dsimp only at hSw); go_simp; try with_reducible rfl)
              try simp only [Act.put, List.setIfInBounds_toArray, List.set_cons_zero, List.set_cons_succ]
              refine wpAnyH_take (i := 12) (oi := ⟨_, _, _, _, _, _⟩) (v := ?vap4133q12) rfl (by kernel_rfl) (by kernel_rfl) (by kernel_rfl) (fun _ _ _ h => h) (Or.inl ⟨by rfl, ?hap4133q12⟩) (by assumption) ?_
              case hap4133q12 => (intro w hSw; (try dsimp only at hSw); go_simp; try with_reducible rfl)
              try simp only [Act.put, List.setIfInBounds_toArray, List.set_cons_zero, List.set_cons_succ]
              refine wpAnyH_take (i := 13) (oi := ⟨_, _, _, _, _, _⟩) (v := ?vap4133q13) rfl (by kernel_rfl) (by kernel_rfl) (by kernel_rfl) (fun _ _ _ h => h) (Or.inl ⟨by rfl, ?hap4133q13⟩) (by assumption) ?_
              case hap4133q13 => (intro w hSw; (try dsimp only at hSw); go_simp; try with_reducible rfl)
              try simp only [Act.put, List.setIfInBounds_toArray, List.set_cons_zero, List.set_cons_succ]
              refine wpAnyH_take (i := 14) (oi := ⟨_, _, _, _, _, _⟩) (v := ?vap4133q14) rfl (by kernel_rfl) (by kernel_rfl) (by kernel_rfl) (fun _ _ _ h => h) (Or.inl ⟨by rfl, ?hap4133q14⟩) (by assumption) ?_
              case hap4133q14 => (intro w hSw; (try dsimp only at hSw); go_simp; try with_reducible rfl)
              try simp only [Act.put, List.setIfInBounds_toArray, List.set_cons_zero, List.set_cons_succ]
              refine wpAnyH_take (i := 15) (oi := ⟨_, _, _, _, _, _⟩) (v := ?vap4133q15) rfl (by kernel_rfl) (by kernel_rfl) (by kernel_rfl) (fun _ _ _ h => h) (Or.inl ⟨by rfl, ?hap4133q15⟩) (by assumption) ?_
              case hap4133q15 => (intro w hSw; (try dsimp only at hSw); go_simp; try with_reducible rfl)
              try simp only [Act.put, List.setIfInBounds_toArray, List.set_cons_zero, List.set_cons_succ]
              refine wpAnyH_take (i := 16) (oi := ⟨_, _, _, _, _, _⟩) (v := ?vap4133q16) rfl (by kernel_rfl) (by kernel_rfl) (by kernel_rfl) (fun _ _ _ h => h) (Or.inl ⟨by rfl, ?hap4133q16⟩) (by assumption) ?_
              case hap4133q16 => (intro w hSw; (try dsimp only at hSw); go_simp; try with_reducible rfl)
              try simp only [Act.put, List.setIfInBounds_toArray, List.set_cons_zero, List.set_cons_succ]
              refine wpAnyH_take (i := 17) (oi := ⟨_, _, _, _, _, _⟩) (v := ?vap4133q17) rfl (by kernel_rfl) (by kernel_rfl) (by kernel_rfl) (fun _ _ _ h => h) (Or.inl ⟨by rfl, ?hap4133q17⟩) (by assumption) ?_
              case hap4133q17 => (intro w hSw; (try dsimp only at hSw); go_simp; try with_reducible rfl)
              try simp only [Act.put, List.setIfInBounds_toArray, List.set_cons_zero, List.set_cons_succ]
              refine wpAnyH_take (i := 18) (oi := ⟨_, _, _, _, _, _⟩) (v := ?vap4133q18) rfl (by kernel_rfl) (by kernel_rfl) (by kernel_rfl) (fun _ _ _ h => h) (Or.inl ⟨by rfl, ?hap4133q18⟩) (by assumption) ?_
              case hap4133q18 => (intro w hSw; (try dsimp only at hSw); go_simp; try with_reducible rfl)
              try simp only [Act.put, List.setIfInBounds_toArray, List.set_cons_zero, List.set_cons_succ]
              refine wpAnyH_take (i := 19) (oi := ⟨_, _, _, _, _, _⟩) (v := ?vap4133q19) rfl (by kernel_rfl) (by kernel_rfl) (by kernel_rfl) (fun _ _ _ h => h) (Or.inl ⟨by rfl, ?hap4133q19⟩) (by assumption) ?_
              case hap4133q19 => (intro w hSw; (try dsimp only at hSw); go_simp; try with_reducible rfl)
              try simp only [Act.put, List.setIfInBounds_toArray, List.set_cons_zero, List.set_cons_succ]
              refine wpAnyH_take (i := 20) (oi := ⟨_, _, _, _, _, _⟩) (v := ?vap4133q20) rfl (by kernel_rfl) (by kernel_rfl) (by kernel_rfl) (fun _ _ _ h => h) (Or.inl ⟨by rfl, ?hap4133q20⟩) (by assumption) ?_
              case hap4133q20 => (intro w hSw; (try dsimp only at hSw); go_simp; try with_reducible rfl)
              try simp only [Act.put, List.setIfInBounds_toArray, List.set_cons_zero, List.set_cons_succ]
              refine wpAnyH_take (i := 21) (oi := ⟨_, _, _, _, _, _⟩) (v := ?vap4133q21) rfl (by kernel_rfl) (by kernel_rfl) (by kernel_rfl) (fun _ _ _ h => h) (Or.inl ⟨by rfl, ?hap4133q21⟩) (by assumption) ?_
              case hap4133q21 => (intro w hSw; (try dsimp only at hSw); go_simp; try with_reducible rfl)
              try simp only [Act.put, List.setIfInBounds_toArray, List.set_cons_zero, List.set_cons_succ]
              refine wpAnyH_ready (rs := [22]) (by kernel_rfl) (by simp) ?_
              refine AllReadyH.cons (o := ⟨_, _, _, _, _, _⟩) rfl (fun K hK => ?_) AllReadyH.nil
              go_simp; go_at_call 166; refine (Before_any x' y' d' x y d _).mono ?_; rintro e w3 ⟨rfl, hb3⟩; rw [HB4.out]
              refine hK.out _ _ (by exact PrevT.keep hb3 L1.out L2.out (by assumption)) (fun hHeld => ?_)
              clear hK K
              try simp only [Act.put, List.setIfInBounds_toArray, List.set_cons_zero, List.set_cons_succ]
              refine wpAnyH_take (i := 23) (oi := ⟨_, _, _, _, _, _⟩) (v := ?vap4133q23) rfl (by kernel_rfl) (by kernel_rfl) (by kernel_rfl) (fun _ _ _ h => h) (Or.inl ⟨by rfl, ?hap4133q23⟩) (by assumption) ?_
              case hap4133q23 => (intro w hSw; (try dsimp only at hSw); go_simp; try with_reducible rfl)
              try simp only [Act.put, List.setIfInBounds_toArray, List.set_cons_zero, List.set_cons_succ]
              refine wpAnyH_take (i := 24) (oi := ⟨_, _, _, _, _, _⟩) (v := ?vap4133q24) rfl (by kernel_rfl) (by kernel_rfl) (by kernel_rfl) (fun _ _ _ h => h) (Or.inl ⟨by rfl, ?hap4133q24⟩) (by assumption) ?_
              case hap4133q24 => (intro w hSw; (try dsimp only at hSw); go_simp; try with_reducible rfl)
              try simp only [Act.put, List.setIfInBounds_toArray, List.set_cons_zero, List.set_cons_succ]
              refine wpAnyH_take (i := 25) (oi := ⟨_, _, _, _, _, _⟩) (v := ?vap4133q25) rfl (by kernel_rfl) (by kernel_rfl) (by kernel_rfl) (fun _ _ _ h => h) (Or.inl ⟨by rfl, ?hap4133q25⟩) (by assumption) ?_
              case hap4133q25 => (intro w hSw; (try dsimp only at hSw); go_simp; try with_reducible rfl)
              try simp only [Act.put, List.setIfInBounds_toArray, List.set_cons_zero, List.set_cons_succ]
              refine wpAnyH_done (by kernel_rfl) ?_ _
              have HB3 := Lib.hid (HBV.out.trans ((show PrevT V _ wr.heap.size x y d (ad.add ((k - 1) * 3)) x' y' d' from by assumption).2.2.2.2.2.2.2.mono HBV.out.size))
              obtain ⟨f0, f1, f2, _⟩ := (show PrevT V _ wr.heap.size x y d (ad.add ((k - 1) * 3)) x' y' d' from by assumption)
              go_wp2_with fail
              refine (HSX.out _).mono ?_
              rintro e w5 ⟨rfl, hb5⟩
              have HB5 := Lib.hid (HB3.out.trans (hb5.mono HB3.out.size))
              go_wp2_with fail
              go_roundw
              case rel => exact ⟨k + 1, by omega, by go_num, by rw [HT.out, HNN.out], HEE, HB5⟩
              case measure => simp [intOf]; omega
    · have HF : Hid (r = true) := by unfold Hid; rw [← HE.out, upFrom_end _ k _ (by omega)]
      go_wp2_with fail
      go_ret
      exact ⟨ret_bool HF.out.symm, HBr.out⟩
end Go.Proofs.Ytehnbalbpfmijaa

namespace Go.Proofs.Ytehnbalbpfmijaa
open Go.RowKit
set_option linter.unusedVariables false

def tileB (R : Nat) (ls : List Lk) : Bool := partB R ls && (covTo ls ls.length == R)
/-- One slice in a cell of its own, in a world that grows. -/
abbrev OneS (V w' : World) (a : Nat) (u : Value) : Prop := w'.cell? ⟨a, 0, none⟩ = some u ∧ V.heap.size ≤ w'.heap.size ∧ Below V.heap.size V w'
theorem OneS.keep {V W0 w1 : World} {a : Nat} {u : Value} (hb : Below W0.heap.size W0 w1) (ha : a < V.heap.size) (h : OneS V W0 a u) : OneS V w1 a u := by
  obtain ⟨h1, h7, h8⟩ := h
  exact ⟨(hb.cell (by simp; omega)).trans h1, Nat.le_trans h7 hb.size, h8.trans (hb.mono h7)⟩
theorem OneS.drew {V W0 : World} {a : Nat} {u : Value} (h : OneS V W0 a u) : OneS V W0.drew a u := ⟨h.1, h.2.1, h.2.2.drew⟩

set_option maxRecDepth 100000 in
set_option maxHeartbeats 4000000 in
theorem IsTiling_yes (u v : Value) (zs : List Int) (ls : List Lk) (B : Nat) (w : World) (hu : RdI w B u zs) (h : RdF elDomino w B v ls) (hB : B ≤ w.heap.size) (hok : regOkB zs = true) :
    Calls Try.prog 71 #[.agg #[u], v] w fun e w' => e = .returned (.bool (tileB (setZ zs) ls)) ∧ Below w.heap.size w w' := by
  have HU := Lib.hid hu
  have HV := Lib.hid h
  obtain ⟨A0, c0, rfl, g10, g20, _⟩ := hu
  unfold maxLen at g20
  clear h
  have HOK := Lib.hid hok
  clear hok
  obtain ⟨W, hW, k1, hb⟩ := one_alloc w (.cells #[.slice A0 zs.length c0] 39)
  have HW := Lib.hid hW
  have HB := Lib.hid hb
  have HT0 : Hid (OneS W W w.heap.size (.slice A0 zs.length c0)) := ⟨by rw [blk_cell k1]; rfl, Nat.le_refl _, Below.refl _ _⟩
  have L1 := Lib.hid (lt_of_block k1)
  clear hW k1 hb
  cases hp : partB (setZ zs) ls
  · have HF : Hid (false = tileB (setZ zs) ls) := by unfold Hid tileB; rw [hp]; rfl
    have HPB := Lib.hid hp
    clear hp
    go_enter Try.func71, Try.ntmps71
    go_wp2_with fail
    rw [← HW.out]
    refine wp_region_held_drew (S := fun w' => OneS W w' w.heap.size (.slice A0 zs.length c0)) (by kernel_rfl) (by exact HT0.out.drew) (fun hHeld => ?_)
    refine wpAnyH_take (i := 0) (oi := ⟨_, _, _, _, _, _⟩) (v := ?vap6027q0) rfl (by kernel_rfl) (by kernel_rfl) (by kernel_rfl) (fun _ _ _ h => h) (Or.inl ⟨by rfl, ?hap6027q0⟩) (by assumption) ?_
    case hap6027q0 => (intro w hSw; (try dsimp only at hSw); go_simp; try with_reducible rfl)
    try simp only [Act.put, List.setIfInBounds_toArray, List.set_cons_zero, List.set_cons_succ]
    refine wpAnyH_take (i := 1) (oi := ⟨_, _, _, _, _, _⟩) (v := ?vap6027q1) rfl (by kernel_rfl) (by kernel_rfl) (by kernel_rfl) (fun _ _ _ h => h) (Or.inl ⟨by rfl, ?hap6027q1⟩) (by assumption) ?_
    case hap6027q1 => (intro w hSw; (try dsimp only at hSw); go_simp; try with_reducible rfl)
    try simp only [Act.put, List.setIfInBounds_toArray, List.set_cons_zero, List.set_cons_succ]
    refine wpAnyH_ready (rs := [2]) (by kernel_rfl) (by simp) ?_
    refine AllReadyH.cons (o := ⟨_, _, _, _, _, _⟩) rfl (fun K hK => ?_) AllReadyH.nil
    go_simp; go_at_call 134; refine (IsPartial_yes _ _ zs ls B _ (HU.out.below ((HB.out.trans (hHeld.2.2.mono HB.out.size)).mono hB)) (HV.out.below ((HB.out.trans (hHeld.2.2.mono HB.out.size)).mono hB)) (Nat.le_trans hB (Nat.le_trans HB.out.size hHeld.2.1)) HOK.out).mono ?_; rintro e w3 ⟨rfl, hb3⟩; rw [HPB.out]
    refine hK.out _ _ (by exact OneS.keep hb3 L1.out (by assumption)) (fun hHeld => ?_)
    clear hK K
    try simp only [Act.put, List.setIfInBounds_toArray, List.set_cons_zero, List.set_cons_succ]
    refine wpAnyH_take (i := 3) (oi := ⟨_, _, _, _, _, _⟩) (v := ?vap6027q3) rfl (by kernel_rfl) (by kernel_rfl) (by kernel_rfl) (fun _ _ _ h => h) (Or.inl ⟨by rfl, ?hap6027q3⟩) (by assumption) ?_
    case hap6027q3 => (intro w hSw; (try dsimp only at hSw); go_simp; try with_reducible rfl)
    try simp only [Act.put, List.setIfInBounds_toArray, List.set_cons_zero, List.set_cons_succ]
    refine wpAnyH_take (i := 4) (oi := ⟨_, _, _, _, _, _⟩) (v := undef) rfl (by kernel_rfl) (by kernel_rfl) (by kernel_rfl) (fun _ _ _ h => h) (Or.inr ⟨by rfl, rfl⟩) (by assumption) ?_
    try simp only [Act.put, List.setIfInBounds_toArray, List.set_cons_zero, List.set_cons_succ]
    refine wpAnyH_take (i := 5) (oi := ⟨_, _, _, _, _, _⟩) (v := undef) rfl (by kernel_rfl) (by kernel_rfl) (by kernel_rfl) (fun _ _ _ h => h) (Or.inr ⟨by rfl, rfl⟩) (by assumption) ?_
    try simp only [Act.put, List.setIfInBounds_toArray, List.set_cons_zero, List.set_cons_succ]
    refine wpAnyH_take (i := 6) (oi := ⟨_, _, _, _, _, _⟩) (v := undef) rfl (by kernel_rfl) (by kernel_rfl) (by kernel_rfl) (fun _ _ _ h => h) (Or.inr ⟨by rfl, rfl⟩) (by assumption) ?_
    try simp only [Act.put, List.setIfInBounds_toArray, List.set_cons_zero, List.set_cons_succ]
    refine wpAnyH_take (i := 7) (oi := ⟨_, _, _, _, _, _⟩) (v := undef) rfl (by kernel_rfl) (by kernel_rfl) (by kernel_rfl) (fun _ _ _ h => h) (Or.inr ⟨by rfl, rfl⟩) (by assumption) ?_
    try simp only [Act.put, List.setIfInBounds_toArray, List.set_cons_zero, List.set_cons_succ]
    refine wpAnyH_take (i := 8) (oi := ⟨_, _, _, _, _, _⟩) (v := undef) rfl (by kernel_rfl) (by kernel_rfl) (by kernel_rfl) (fun _ _ _ h => h) (Or.inr ⟨by rfl, rfl⟩) (by assumption) ?_
    try simp only [Act.put, List.setIfInBounds_toArray, List.set_cons_zero, List.set_cons_succ]
    refine wpAnyH_take (i := 9) (oi := ⟨_, _, _, _, _, _⟩) (v := ?vap6027q9) rfl (by kernel_rfl) (by kernel_rfl) (by kernel_rfl) (fun _ _ _ h => h) (Or.inl ⟨by rfl, ?hap6027q9⟩) (by assumption) ?_
    case hap6027q9 => (intro w hSw; (try dsimp only at hSw); go_simp; try with_reducible rfl)
    try simp only [Act.put, List.setIfInBounds_toArray, List.set_cons_zero, List.set_cons_succ]
    refine wpAnyH_take (i := 10) (oi := ⟨_, _, _, _, _, _⟩) (v := ?vap6027q10) rfl (by kernel_rfl) (by kernel_rfl) (by kernel_rfl) (fun _ _ _ h => h) (Or.inl ⟨by rfl, ?hap6027q10⟩) (by assumption) ?_
    case hap6027q10 => (intro w hSw; (try dsimp only at hSw); go_simp; try with_reducible rfl)
    try simp only [Act.put, List.setIfInBounds_toArray, List.set_cons_zero, List.set_cons_succ]
    refine wpAnyH_done (by kernel_rfl) ?_ _
    have HB3 := Lib.hid (HB.out.trans ((show OneS W _ w.heap.size (.slice A0 zs.length c0) from by assumption).2.2.mono HB.out.size))
    go_wp2_with fail
    go_ret
    exact ⟨ret_bool HF.out, HB3.out⟩
  · have HPB := Lib.hid hp
    obtain ⟨b, hb⟩ : ∃ b, (((covTo ls ls.length : Nat) : Int) == ((setZ zs : Nat) : Int)) = b := ⟨_, rfl⟩
    have HF : Hid (b = tileB (setZ zs) ls) := by
      unfold Hid tileB; rw [hp, Bool.true_and, ← hb, Bool.eq_iff_iff, beq_iff_eq, beq_iff_eq]; omega
    clear hp
    go_enter Try.func71, Try.ntmps71
    go_wp2_with fail
    rw [← HW.out]
    refine wp_region_held_drew (S := fun w' => OneS W w' w.heap.size (.slice A0 zs.length c0)) (by kernel_rfl) (by exact HT0.out.drew) (fun hHeld => ?_)
    refine wpAnyH_take (i := 0) (oi := ⟨_, _, _, _, _, _⟩) (v := ?vap6028q0) rfl (by kernel_rfl) (by kernel_rfl) (by kernel_rfl) (fun _ _ _ h => h) (Or.inl ⟨by rfl, ?hap6028q0⟩) (by assumption) ?_
    case hap6028q0 => (intro w hSw; (try dsimp only at hSw); go_simp; try with_reducible rfl)
    try simp only [Act.put, List.setIfInBounds_toArray, List.set_cons_zero, List.set_cons_succ]
    refine wpAnyH_take (i := 1) (oi := ⟨_, _, _, _, _, _⟩) (v := ?vap6028q1) rfl (by kernel_rfl) (by kernel_rfl) (by kernel_rfl) (fun _ _ _ h => h) (Or.inl ⟨by rfl, ?hap6028q1⟩) (by assumption) ?_
    case hap6028q1 => (intro w hSw; (try dsimp only at hSw); go_simp; try with_reducible rfl)
    try simp only [Act.put, List.setIfInBounds_toArray, List.set_cons_zero, List.set_cons_succ]
    refine wpAnyH_ready (rs := [2]) (by kernel_rfl) (by simp) ?_
    refine AllReadyH.cons (o := ⟨_, _, _, _, _, _⟩) rfl (fun K hK => ?_) AllReadyH.nil
    go_simp; go_at_call 134; refine (IsPartial_yes _ _ zs ls B _ (HU.out.below ((HB.out.trans (hHeld.2.2.mono HB.out.size)).mono hB)) (HV.out.below ((HB.out.trans (hHeld.2.2.mono HB.out.size)).mono hB)) (Nat.le_trans hB (Nat.le_trans HB.out.size hHeld.2.1)) HOK.out).mono ?_; rintro e w3 ⟨rfl, hb3⟩; rw [HPB.out]
    refine hK.out _ _ (by exact OneS.keep hb3 L1.out (by assumption)) (fun hHeld => ?_)
    clear hK K
    try simp only [Act.put, List.setIfInBounds_toArray, List.set_cons_zero, List.set_cons_succ]
    refine wpAnyH_take (i := 3) (oi := ⟨_, _, _, _, _, _⟩) (v := ?vap6028q3) rfl (by kernel_rfl) (by kernel_rfl) (by kernel_rfl) (fun _ _ _ h => h) (Or.inl ⟨by rfl, ?hap6028q3⟩) (by assumption) ?_
    case hap6028q3 => (intro w hSw; (try dsimp only at hSw); go_simp; try with_reducible rfl)
    try simp only [Act.put, List.setIfInBounds_toArray, List.set_cons_zero, List.set_cons_succ]
    refine wpAnyH_take (i := 4) (oi := ⟨_, _, _, _, _, _⟩) (v := ?vap6028q4) rfl (by kernel_rfl) (by kernel_rfl) (by kernel_rfl) (fun _ _ _ h => h) (Or.inl ⟨by rfl, ?hap6028q4⟩) (by assumption) ?_
    case hap6028q4 => (intro w hSw; (try dsimp only at hSw); go_simp; try with_reducible rfl)
    try simp only [Act.put, List.setIfInBounds_toArray, List.set_cons_zero, List.set_cons_succ]
    refine wpAnyH_take (i := 6) (oi := ⟨_, _, _, _, _, _⟩) (v := ?vap6028q6) rfl (by kernel_rfl) (by kernel_rfl) (by kernel_rfl) (fun _ _ _ h => h) (Or.inl ⟨by rfl, ?hap6028q6⟩) (by assumption) ?_
    case hap6028q6 => (intro w hSw; (try dsimp only at hSw); go_simp; try with_reducible rfl)
    try simp only [Act.put, List.setIfInBounds_toArray, List.set_cons_zero, List.set_cons_succ]
    refine wpAnyH_ready (rs := [5]) (by kernel_rfl) (by simp) ?_
    refine AllReadyH.cons (o := ⟨_, _, _, _, _, _⟩) rfl (fun K hK => ?_) AllReadyH.nil
    go_simp; go_at_call 76; refine (covered_any _ ls B _ (HV.out.below ((HB.out.trans (hHeld.2.2.mono HB.out.size)).mono hB)) (Nat.le_trans hB (Nat.le_trans HB.out.size hHeld.2.1))).mono ?_; rintro e w3 ⟨rfl, hb3⟩
    refine hK.out _ _ (by exact OneS.keep hb3 L1.out (by assumption)) (fun hHeld => ?_)
    clear hK K
    try simp only [Act.put, List.setIfInBounds_toArray, List.set_cons_zero, List.set_cons_succ]
    refine wpAnyH_ready (rs := [7]) (by kernel_rfl) (by simp) ?_
    refine AllReadyH.cons (o := ⟨_, _, _, _, _, _⟩) rfl (fun K hK => ?_) AllReadyH.nil
    go_simp; go_at_call 60; refine (rset_any _ zs B _ (HU.out.below ((HB.out.trans (hHeld.2.2.mono HB.out.size)).mono hB)) (Nat.le_trans hB (Nat.le_trans HB.out.size hHeld.2.1)) HOK.out).mono ?_; rintro e w3 ⟨rfl, hb3⟩
    refine hK.out _ _ (by exact OneS.keep hb3 L1.out (by assumption)) (fun hHeld => ?_)
    clear hK K
    try simp only [Act.put, List.setIfInBounds_toArray, List.set_cons_zero, List.set_cons_succ]
    refine wpAnyH_take (i := 8) (oi := ⟨_, _, _, _, _, _⟩) (v := ?vap6028q8) rfl (by kernel_rfl) (by kernel_rfl) (by kernel_rfl) (fun _ _ _ h => h) (Or.inl ⟨by rfl, ?hap6028q8⟩) (by assumption) ?_
    case hap6028q8 => (intro w hSw; (try dsimp only at hSw); go_simp; try with_reducible rfl)
    try simp only [Act.put, List.setIfInBounds_toArray, List.set_cons_zero, List.set_cons_succ]
    refine wpAnyH_take (i := 9) (oi := ⟨_, _, _, _, _, _⟩) (v := ?vap6028q9) rfl (by kernel_rfl) (by kernel_rfl) (by kernel_rfl) (fun _ _ _ h => h) (Or.inl ⟨by rfl, ?hap6028q9⟩) (by assumption) ?_
    case hap6028q9 => (intro w hSw; (try dsimp only at hSw); go_simp; try with_reducible rfl)
    try simp only [Act.put, List.setIfInBounds_toArray, List.set_cons_zero, List.set_cons_succ]
    refine wpAnyH_take (i := 10) (oi := ⟨_, _, _, _, _, _⟩) (v := ?vap6028q10) rfl (by kernel_rfl) (by kernel_rfl) (by kernel_rfl) (fun _ _ _ h => h) (Or.inl ⟨by rfl, ?hap6028q10⟩) (by assumption) ?_
    case hap6028q10 => (intro w hSw; (try dsimp only at hSw); go_simp; try with_reducible rfl)
    try simp only [Act.put, List.setIfInBounds_toArray, List.set_cons_zero, List.set_cons_succ]
    refine wpAnyH_done (by kernel_rfl) ?_ _
    have HB3 := Lib.hid (HB.out.trans ((show OneS W _ w.heap.size (.slice A0 zs.length c0) from by assumption).2.2.mono HB.out.size))
    go_wp2_with fail
    go_ret
    exact ⟨ret_bool HF.out, HB3.out⟩
end Go.Proofs.Ytehnbalbpfmijaa
