/- The cells under the valid dominoes of a list. -/
import Derived.Test.YtiecphhenpapoaaDom
import Derived.Test.YtiecphhenpapoaaTriDomino
namespace Go.Proofs.Ytiecphhenpapoaa
open Go.RowKit
set_option linter.unusedVariables false

/-- Domino j of a list, and its cells. -/
def dAt (ls : List Lk) (j : Nat) : Lk := (lx ls j, ly ls j, ld ls j)
def domL (l : Lk) : Bool := domB l.1 l.2.1 l.2.2
def dM (l : Lk) : Nat := domM l.1.toNat l.2.1.toNat l.2.2
def covTo (ls : List Lk) : Nat → Nat
  | 0 => 0
  | k + 1 => if domL (dAt ls k) then covTo ls k ||| dM (dAt ls k) else covTo ls k
theorem dset_Z (x y : Int) (d : Bool) (w : World) (h : domB x y d = true) :
    Calls Try.prog 142 #[triV x y d] w fun e w' => e = .returned (.int .u64 (dM (x, y, d) : Nat)) ∧ Below w.heap.size w w' := by
  have hd := (domB_iff _ _ _).1 h
  obtain ⟨a, rfl⟩ := Int.eq_ofNat_of_zero_le hd.1.1
  obtain ⟨b, rfl⟩ := Int.eq_ofNat_of_zero_le hd.1.2
  exact dset_any a b d w h
theorem dM_lt {l : Lk} (h : domL l = true) : dM l < 18446744073709551616 := by
  obtain ⟨x, y, d⟩ := l
  have hd := (domB_iff _ _ _).1 h
  obtain ⟨a, rfl⟩ := Int.eq_ofNat_of_zero_le hd.1.1
  obtain ⟨b, rfl⟩ := Int.eq_ofNat_of_zero_le hd.1.2
  exact domM_lt a b d h
theorem covTo_lt (ls : List Lk) : ∀ k, covTo ls k < 18446744073709551616
  | 0 => by simp [covTo]
  | k + 1 => by
    rw [covTo]
    split
    · rename_i h; exact orU _ _ (covTo_lt ls k) (dM_lt h)
    · exact covTo_lt ls k
/-- One struct of three fields, in a world that grows. -/
abbrev OneT (W w' : World) (a : Nat) (x y : Int) (d : Bool) : Prop := w'.cell? ⟨a, 0, none⟩ = some (.int .i64 x) ∧ w'.cell? ⟨a, 1, none⟩ = some (.int .i64 y) ∧ w'.cell? ⟨a, 2, none⟩ = some (.bool d) ∧ W.heap.size ≤ w'.heap.size ∧ Below W.heap.size W w'
theorem OneT.keep {W W0 w1 : World} {a : Nat} {x y : Int} {d : Bool} (hb : Below W0.heap.size W0 w1) (ha : a < W.heap.size) (h : OneT W W0 a x y d) : OneT W w1 a x y d := by
  obtain ⟨h1, h2, h3, h7, h8⟩ := h
  exact ⟨(hb.cell (by simp; omega)).trans h1, (hb.cell (by simp; omega)).trans h2, (hb.cell (by simp; omega)).trans h3, Nat.le_trans h7 hb.size, h8.trans (hb.mono h7)⟩
theorem OneT.drew {W W0 : World} {a : Nat} {x y : Int} {d : Bool} (h : OneT W W0 a x y d) : OneT W W0.drew a x y d := ⟨h.1, h.2.1, h.2.2.1, h.2.2.2.1, h.2.2.2.2.drew⟩
theorem OneT.of {W : World} {a : Nat} {x y : Int} {d : Bool} {t : TypeId} (k1 : W.heap[a]? = some (triO x y d t)) : OneT W W a x y d :=
  ⟨by rw [blk_cell k1]; rfl, by rw [blk_cell k1]; rfl, by rw [blk_cell k1]; rfl, Nat.le_refl _, Below.refl _ _⟩

set_option maxRecDepth 100000 in
set_option maxHeartbeats 4000000 in
theorem covered_any (v : Value) (ls : List Lk) (B : Nat) (w : World) (h : RdF elDomino w B v ls) (hB : B ≤ w.heap.size) :
    Calls Try.prog 105 #[v] w fun e w' => e = .returned (.int .u64 (covTo ls ls.length : Nat)) ∧ Below w.heap.size w w' := by
  obtain ⟨A, c, rfl, g1, g2, G3⟩ := RdT.of (E := elDomino) rfl (fun _ => rfl) h
  unfold maxLen at g2
  clear h
  go_enter Try.func105, Try.ntmps105
  go_wp2_with fail
  go_loopw [3, 8] (fun s i wr => ∃ k : Nat, k ≤ ls.length ∧ i = .int .i64 k ∧ s = .int .u64 (covTo ls k : Nat) ∧ Hid (Below w.heap.size w wr)) (fun _ i _ => ls.length - (intOf i).toNat)
  case atStart => exact ⟨0, Nat.zero_le _, rfl, rfl, Below.refl _ _⟩
  case round =>
    obtain ⟨k, hk, rfl, rfl, HB⟩ := hrel
    by_cases hlt : k < ls.length
    · obtain ⟨ad, rfl, hbl, hx, hy, hz⟩ := G3.out k hlt
      have hbl2 : (ad.add (k * 3)).block < w.heap.size := by rw [addBlock]; omega
      have hx' := (HB.out.cell (p := ad.add (k * 3)) hbl2).trans hx
      have hy' := (HB.out.cell (p := ⟨(ad.add (k * 3)).block, (ad.add (k * 3)).off + 1, none⟩) hbl2).trans hy
      have hz' := (HB.out.cell (p := ⟨(ad.add (k * 3)).block, (ad.add (k * 3)).off + 2, none⟩) hbl2).trans hz
      have HT : Hid (covTo ls (k + 1) = if domB (lx ls k) (ly ls k) (ld ls k) then covTo ls k ||| dM (lx ls k, ly ls k, ld ls k) else covTo ls k) := rfl
      have HCL := Lib.hid (covTo_lt ls k)
      have HDL := Lib.hid (fun h => dM_lt (l := (lx ls k, ly ls k, ld ls k)) h)
      have HDS := Lib.hid (fun V h => dset_Z (lx ls k) (ly ls k) (ld ls k) V h)
      generalize lx ls k = x at *
      generalize ly ls k = y at *
      generalize ld ls k = d at *
      clear hx hy hz
      go_wp2_with fail
      obtain ⟨W, hW, k1, hbW⟩ := one_alloc wr (triO x y d 58)
      rw [← hW]
      have hT0 := OneT.of k1
      have HT0 := Lib.hid hT0
      have L1 := Lib.hid (lt_of_block k1)
      have HBW := Lib.hid (HB.out.trans (hbW.mono HB.out.size))
      clear hW k1 hbW hx' hy' hz' hT0
      refine (DominoOk_any x y d _).mono ?_
      rintro e w1 ⟨rfl, hb1⟩
      have hT1 := OneT.keep hb1 L1.out HT0.out
      have HB1 := Lib.hid (HBW.out.trans (hb1.mono HBW.out.size))
      obtain ⟨f1, f2, f3, _, _⟩ := hT1
      clear hb1
      cases hd : domB x y d
      · have HE : Hid (covTo ls (k + 1) = covTo ls k) := by unfold Hid; rw [HT.out, hd]; rfl
        clear HT
        go_wp2_with fail
        go_roundw
        case rel => exact ⟨k + 1, by omega, by go_num, by rw [HE.out], HB1⟩
        case measure => simp [intOf]; omega
      · have HE : Hid (covTo ls (k + 1) = covTo ls k ||| dM (x, y, d)) := by unfold Hid; rw [HT.out, hd]; rfl
        have HD1 := Lib.hid hd
        have HO := Lib.hid (u64_or_nat _ _ HCL.out (HDL.out hd))
        clear HT hd
        go_wp2_with fail
        refine (HDS.out _ HD1.out).mono ?_
        rintro e w2 ⟨rfl, hb2⟩
        have HB2 := Lib.hid (HB1.out.trans (hb2.mono HB1.out.size))
        go_wp2_with fail
        go_roundw
        case rel => exact ⟨k + 1, by omega, by go_num, by rw [HE.out, HO.out], HB2⟩
        case measure => simp [intOf]; omega
    · have HK : Hid (k = ls.length) := by unfold Hid; omega
      go_wp2_with fail
      go_ret
      exact ⟨congrArg (fun n : Nat => Ending.returned (.int .u64 (covTo ls n : Int))) HK.out, HB.out⟩
end Go.Proofs.Ytiecphhenpapoaa
