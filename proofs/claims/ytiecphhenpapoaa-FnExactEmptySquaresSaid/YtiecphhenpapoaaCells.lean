/- The cells of a set as a list, has at any cell, setOf four cells: of the program. -/
import Derived.Test.YtiecphhenpapoaaProfI
import Derived.Test.YtiecphhenpapoaaSReg
import Derived.Test.YtiecphhenpapoaaSDom
import Derived.Test.YtiecphhenpapoaaLkIx
import Derived.Test.YtiecphhenpapoaaCovered
namespace Go.Proofs.Ytiecphhenpapoaa
open Go.RowKit
set_option linter.unusedVariables false

set_option maxRecDepth 100000 in
set_option maxHeartbeats 2000000 in
theorem cells_any (T : Nat) (hT : T < 18446744073709551616) (w : World) :
    Calls Try.prog 106 #[.int .u64 (T : Int)] w fun e w' => ∃ u, e = .returned u ∧ OwnF elCell w' w.heap.size u (cellsTo T 64) ∧ Below w.heap.size w w' := by
  have HS0 : Hid (Acc elCell w w.heap.size (w.alloc (.cells #[] 56)) (.slice (some ⟨w.heap.size, 0, none⟩) 0 0) []) := Acc.start w
  have HCT : Hid (∀ k, cellsTo T (k + 1) = cellsTo T k ++ (if T.testBit k then [(((k % 8 : Nat) : Int), ((k / 8 : Nat) : Int))] else [])) := fun k => rfl
  have HCL := Lib.hid (fun k => (show (cellsTo T k).length ≤ k from by rw [cellsTo_len]; exact cntB_le T k))
  have HC0 : Hid (cellsTo T 0 = []) := rfl
  obtain ⟨st, HST⟩ : ∃ st, Hid (st = cellsTo T) := ⟨_, rfl⟩
  rw [← HST.out] at HCT HCL HC0 ⊢
  obtain ⟨N, HN⟩ : ∃ N : Nat, Hid (N = 64) := ⟨_, rfl⟩
  rw [← HN.out]
  clear HST
  go_enter Try.func106, Try.ntmps106
  go_wp2_with fail
  go_loopw [3, 6] (fun o i wr => ∃ (k : Nat) (u : Value), k ≤ 64 ∧ i = .int .i64 k ∧ u = o ∧ Hid (Acc elCell w w.heap.size wr u (st k))) (fun _ i _ => 64 - (intOf i).toNat)
  case atStart => exact ⟨0, _, Nat.zero_le _, rfl, rfl, by rw [HC0.out]; exact HS0⟩
  case round =>
    obtain ⟨k, u, hk, rfl, rfl, HA⟩ := hrel
    obtain ⟨A1, ca, hv, q1, q2, _⟩ := HA.out.1.rd okCell
    subst hv
    unfold maxLen at q2
    have hlen := HCL.out k
    by_cases hlt : k < 64
    · have ht : decide ((k : Int) < 64) = true := by simp only [decide_eq_true_eq]; omega
      have hk0 : (0 : Int) ≤ (k : Int) := by omega
      have hba := bit_and T k hT
      have hsv : (T : Int) / 2 ^ k = ((T / 2 ^ k : Nat) : Int) := by simp
      have HNX := Lib.hid (HCT.out k)
      generalize st k = ys at *
      cases hb : T.testBit k
      · rw [hb] at hba HNX
        have hba2 : (bits .and .u64 ((T : Int) / 2 ^ k) 1 == 1) = false := by rw [hsv, hba]; rfl
        have HN2 : Hid (st (k + 1) = ys) := by unfold Hid; rw [HNX.out]; simp
        clear hba hsv
        go_wp2_with fail
        go_roundw
        case rel => exact ⟨k + 1, _, by omega, by go_num, rfl, by rw [HN2.out]; exact HA⟩
        case measure => simp [intOf]; omega
      · rw [hb] at hba HNX
        have hba2 : (bits .and .u64 ((T : Int) / 2 ^ k) 1 == 1) = true := by rw [hsv, hba]; rfl
        have HN2 : Hid (st (k + 1) = ys ++ [(((k % 8 : Nat) : Int), ((k / 8 : Nat) : Int))]) := by unfold Hid; rw [HNX.out]; rfl
        clear hba hsv
        go_wp2_with fail
        refine (cellAt_any k (by omega) _).mono ?_
        rintro e w2 ⟨rfl, hb2⟩
        have HA2 := Lib.hid (HA.out.below hb2)
        clear hb2
        generalize ((k % 8 : Nat) : Int) = cx at *
        generalize ((k / 8 : Nat) : Int) = cy at *
        go_wp2_with (at_builtin; refine wpList_push okCell rfl _ _ rfl HA2.out rfl (cx, cy) _ rfl _ rfl rfl (by omega) ?_; intro v10 w10 HA10 HG10)
        go_roundw
        case rel => exact ⟨k + 1, _, by omega, by go_num, rfl, by rw [HN2.out]; exact HA10⟩
        case measure => simp [intOf]; omega
    · have HK : Hid (k = N) := by unfold Hid; have := HN.out; omega
      have ht : decide ((k : Int) < 64) = false := by simp only [decide_eq_false_iff_not]; omega
      have HO : Hid (OwnF elCell wr w.heap.size (.slice A1 (st k).length ca) (st N)) := by rw [← HK.out]; exact HA.out.1
      go_wp2_with fail
      go_ret
      exact ⟨_, rfl, HO.out, HA.out.2.1⟩

/-- The set of a list of cells. -/
def sofTo (ls : List (Int × Int)) : Nat → Nat
  | 0 => 0
  | k + 1 => sofTo ls k ||| 2 ^ cix (dx ls k).toNat (dy ls k).toNat
set_option maxRecDepth 100000 in
set_option maxHeartbeats 2000000 in
theorem setOf_any (v : Value) (ls : List (Int × Int)) (hok : ∀ k, k < ls.length → (0 ≤ dx ls k ∧ dx ls k ≤ 7) ∧ 0 ≤ dy ls k ∧ dy ls k ≤ 7) (B : Nat) (w : World) (h : RdF elCell w B v ls) (hB : B ≤ w.heap.size) :
    Calls Try.prog 108 #[v] w fun e w' => e = .returned (.int .u64 (sofTo ls ls.length : Nat)) ∧ Below w.heap.size w w' := by
  have HLT : Hid (∀ k, k ≤ ls.length → sofTo ls k < 18446744073709551616) := by
    intro k
    induction k with
    | zero => intro _; simp [sofTo]
    | succ k ih =>
      intro hk
      have h1 := hok k (by omega)
      exact with_lt (ih (by omega)) (by unfold cix; omega)
  have HOK := Lib.hid hok
  have HST : Hid (∀ k, sofTo ls (k + 1) = sofTo ls k ||| 2 ^ cix (dx ls k).toNat (dy ls k).toNat) := fun k => rfl
  obtain ⟨A, c, rfl, g1, g2, G3⟩ := RdD.of (E := elCell) rfl (fun _ => rfl) h
  unfold maxLen at g2
  clear h hok
  go_enter Try.func108, Try.ntmps108
  go_wp2_with fail
  go_loopw [3, 8] (fun s i wr => ∃ k : Nat, k ≤ ls.length ∧ i = .int .i64 k ∧ s = .int .u64 (sofTo ls k : Nat) ∧ Hid (Below w.heap.size w wr)) (fun _ i _ => ls.length - (intOf i).toNat)
  case atStart => exact ⟨0, Nat.zero_le _, rfl, rfl, Below.refl _ _⟩
  case round =>
    obtain ⟨k, hk, rfl, rfl, HB⟩ := hrel
    by_cases hlt : k < ls.length
    · obtain ⟨ad, rfl, hbl, hx, hy⟩ := G3.out k hlt
      have ht : decide ((k : Int) < (ls.length : Int)) = true := by simp only [decide_eq_true_eq]; omega
      have hbl2 : (ad.add (k * 2)).block < w.heap.size := by rw [addBlock]; omega
      have hx' := (HB.out.cell (p := ad.add (k * 2)) hbl2).trans hx
      have hy' := (HB.out.cell (p := ⟨(ad.add (k * 2)).block, (ad.add (k * 2)).off + 1, none⟩) hbl2).trans hy
      have hb := HOK.out k hlt
      have HT := Lib.hid (HST.out k)
      have HCL := Lib.hid (HLT.out k (by omega))
      have hk0 : (0 : Int) ≤ (k : Int) := by omega
      have hk1 : (k : Int) < (ls.length : Int) := by omega
      obtain ⟨a, ha⟩ := Int.eq_ofNat_of_zero_le hb.1.1
      obtain ⟨b, hb'⟩ := Int.eq_ofNat_of_zero_le hb.2.1
      rw [ha, hb'] at HT
      rw [ha] at hx'
      rw [hb'] at hy'
      simp only [Int.toNat_natCast] at HT
      have HW := Lib.hid (fun V => with_yes (sofTo ls k) a b HCL.out (by omega) (by omega) V)
      rw [← HT.out] at HW
      clear hx hy hb ha hb' HT
      generalize sofTo ls k = S at *
      go_wp2_with fail
      obtain ⟨W, hW, k1, hbW⟩ := one_alloc wr (.cells #[.int .i64 (a : Int), .int .i64 (b : Int)] 56)
      rw [← hW]
      have c0 : W.cell? ⟨wr.heap.size, 0, none⟩ = some (.int .i64 (a : Int)) := by rw [blk_cell k1]; rfl
      have c1 : W.cell? ⟨wr.heap.size, 1, none⟩ = some (.int .i64 (b : Int)) := by rw [blk_cell k1]; rfl
      have HBW := Lib.hid (HB.out.trans (hbW.mono HB.out.size))
      clear hW k1 hbW hx' hy'
      go_wp2_with fail
      refine (HW.out _).mono ?_
      rintro e w1 ⟨rfl, hb1⟩
      have HB1 := Lib.hid (HBW.out.trans (hb1.mono HBW.out.size))
      clear hb1 c0 c1
      go_wp2_with fail
      go_roundw
      case rel => exact ⟨k + 1, by omega, by go_num, rfl, HB1⟩
      case measure => simp [intOf]; omega
    · have HK : Hid (k = ls.length) := by unfold Hid; omega
      have ht : decide ((k : Int) < (ls.length : Int)) = false := by simp only [decide_eq_false_iff_not]; omega
      go_wp2_with fail
      go_ret
      exact ⟨congrArg (fun n : Nat => Ending.returned (.int .u64 (sofTo ls n : Int))) HK.out, HB.out⟩
end Go.Proofs.Ytiecphhenpapoaa

namespace Go.Proofs.Ytiecphhenpapoaa
open Go.RowKit
set_option linter.unusedVariables false

def cEq (ls : List (Int × Int)) (x y : Int) (i : Nat) : Bool := dx ls i == x && dy ls i == y
def hasCL (ls : List (Int × Int)) (x y : Int) : Bool := decide (0 ≤ fstZ (cEq ls x y) ls.length 0)
theorem eql_cell (a b x y : Int) (W : World) : Sem.run Try.prog (binOp .eql 56 (.agg #[.int .i64 a, .int .i64 b]) (.agg #[.int .i64 x, .int .i64 y])) W = .ok (.bool (a == x && b == y)) W := by
  by_cases h1 : a = x
  · by_cases h2 : b = y
    · subst h1; subst h2
      rw [show (a == a && b == b) = true by simp]
      go_simp
    · rw [show (a == x && b == y) = false by simp [h2]]
      go_simp
  · rw [show (a == x && b == y) = false by simp [h1]]
    go_simp

set_option maxRecDepth 100000 in
set_option maxHeartbeats 2000000 in
theorem l10Has_any (v : Value) (ls : List (Int × Int)) (x y : Int) (B : Nat) (w : World) (h : RdF elCell w B v ls) (hB : B ≤ w.heap.size) :
    Calls Try.prog 122 #[v, spotV x y] w fun e w' => e = .returned (.bool (hasCL ls x y)) ∧ Below w.heap.size w w' := by
  obtain ⟨A, c, rfl, g1, g2, G3⟩ := RdD.of (E := elCell) rfl (fun _ => rfl) h
  unfold maxLen at g2
  clear h
  go_enter Try.func122, Try.ntmps122
  go_wp2_with fail
  obtain ⟨W, hW, k0, hb0⟩ := one_alloc w (.cells #[.int .i64 x, .int .i64 y] 56)
  rw [← hW]
  have HK := Lib.hid k0
  have HB0 := Lib.hid hb0
  have hs0 : w.heap.size < W.heap.size := lt_of_block k0
  clear hW k0 hb0
  go_loopw [5] (fun s wr => ∃ k : Nat, k ≤ ls.length ∧ s = .int .i64 k ∧ Hid (Below W.heap.size W wr) ∧ Hid (fstZ (cEq ls x y) ls.length 0 = fstZ (cEq ls x y) (ls.length - k) k)) (fun s _ => ls.length - (intOf s).toNat)
  case atStart => exact ⟨0, Nat.zero_le _, rfl, Below.refl _ _, rfl⟩
  case round =>
    obtain ⟨k, hk, rfl, HB, HF⟩ := hrel
    by_cases hlt : k < ls.length
    · obtain ⟨ad, rfl, had, hx, hy⟩ := G3.out k hlt
      have hbw := HB0.out.trans (HB.out.mono HB0.out.size)
      have hx' := (hbw.cell (p := ad.add (k * 2)) (by rw [addBlock]; omega)).trans hx
      have hy' := (hbw.cell (p := ⟨(ad.add (k * 2)).block, (ad.add (k * 2)).off + 1, none⟩) (by show (ad.add (k * 2)).block < _; rw [addBlock]; omega)).trans hy
      have hblk := (HB.out.block w.heap.size hs0).trans HK.out
      have ht : decide ((k : Int) < (ls.length : Int)) = true := by simp only [decide_eq_true_eq]; omega
      have hk0 : (0 : Int) ≤ (k : Int) := by omega
      have hk1 : (k : Int) < (ls.length : Int) := by omega
      have b0 : wr.cell? ⟨w.heap.size, 0, none⟩ = some (.int .i64 x) := by rw [blk_cell hblk]; rfl
      have b1 : wr.cell? ⟨w.heap.size, 1, none⟩ = some (.int .i64 y) := by rw [blk_cell hblk]; rfl
      have HQ := Lib.hid hbw
      clear hbw hx hy hblk
      have HS : Hid (fstZ (cEq ls x y) (ls.length - k) k = if cEq ls x y k then (k : Int) else fstZ (cEq ls x y) (ls.length - (k + 1)) (k + 1)) := by
        unfold Hid; rw [show ls.length - k = (ls.length - (k + 1)) + 1 by omega, fstZ]
      have hsq := eql_cell (dx ls k) (dy ls k) x y
      have HE : Hid (cEq ls x y k = (dx ls k == x && dy ls k == y)) := rfl
      rw [← HE.out] at hsq
      generalize cEq ls x y k = r at *
      generalize dx ls k = p1 at *
      generalize dy ls k = p2 at *
      clear HE
      cases r
      · have HS2 : Hid (fstZ (cEq ls x y) ls.length 0 = fstZ (cEq ls x y) (ls.length - (k + 1)) (k + 1)) := HF.out.trans HS.out
        clear HS HF
        go_wp2_with fail
        go_quiet (fail)
        have HB9 := Lib.hid (HB.out.trans (Drawn.below ⟨nq, rfl⟩ _))
        go_wp2_with fail
        go_roundw
        case rel => exact ⟨k + 1, by omega, by go_num, HB9, HS2⟩
        case measure => simp [intOf]; omega
      · have HS2 : Hid (true = hasCL ls x y) := by
          unfold Hid hasCL
          rw [show fstZ (cEq ls x y) ls.length 0 = (k : Int) from HF.out.trans HS.out]
          simp
        clear HS HF
        go_wp2_with fail
        go_quiet (fail)
        have HQ9 := Lib.hid (HQ.out.trans (Drawn.below ⟨nq, rfl⟩ _))
        go_wp2_with fail
        go_ret
        exact ⟨ret_bool HS2.out, HQ9.out⟩
    · have HF2 : Hid (false = hasCL ls x y) := by
        unfold Hid hasCL
        rw [HF.out, show ls.length - k = 0 by omega]
        rfl
      have ht : decide ((k : Int) < (ls.length : Int)) = false := by simp only [decide_eq_false_iff_not]; omega
      go_wp2_with fail
      go_ret
      exact ⟨ret_bool HF2.out, HB0.out.trans (HB.out.mono HB0.out.size)⟩

/-- A domino lies over a cell. -/
def domAt (ls : List Lk) (x y : Int) (i : Nat) : Bool := domB (lx ls i) (ly ls i) (ld ls i) && ((lx ls i == x && ly ls i == y) || (sndX (lx ls i) (ld ls i) == x && sndY (ly ls i) (ld ls i) == y))
set_option maxRecDepth 100000 in
set_option maxHeartbeats 2000000 in
theorem specDominoAt_any (v : Value) (ls : List Lk) (x y : Int) (B : Nat) (w : World) (h : RdF elDomino w B v ls) (hB : B ≤ w.heap.size) :
    Calls Try.prog 138 #[v, spotV x y] w fun e w' => e = .returned (.int .i64 (fstZ (domAt ls x y) ls.length 0)) ∧ Below w.heap.size w w' := by
  obtain ⟨A, c, rfl, g1, g2, G3⟩ := RdT.of (E := elDomino) rfl (fun _ => rfl) h
  unfold maxLen at g2
  clear h
  go_enter Try.func138, Try.ntmps138
  go_wp2_with fail
  obtain ⟨W, hW, k0, hb0⟩ := one_alloc w (.cells #[.int .i64 x, .int .i64 y] 56)
  rw [← hW]
  have HK := Lib.hid k0
  have HB0 := Lib.hid hb0
  have hs0 : w.heap.size < W.heap.size := lt_of_block k0
  clear hW k0 hb0
  go_loopw [5] (fun s wr => ∃ k : Nat, k ≤ ls.length ∧ s = .int .i64 k ∧ Hid (Below W.heap.size W wr) ∧ Hid (fstZ (domAt ls x y) ls.length 0 = fstZ (domAt ls x y) (ls.length - k) k)) (fun s _ => ls.length - (intOf s).toNat)
  case atStart => exact ⟨0, Nat.zero_le _, rfl, Below.refl _ _, rfl⟩
  case round =>
    obtain ⟨k, hk, rfl, HB, HF⟩ := hrel
    by_cases hlt : k < ls.length
    · obtain ⟨ad, rfl, had, hx, hy, hz⟩ := G3.out k hlt
      have had2 : (ad.add (k * 3)).block < w.heap.size := by rw [addBlock]; omega
      have hbw := HB0.out.trans (HB.out.mono HB0.out.size)
      have hx' := (hbw.cell (p := ad.add (k * 3)) had2).trans hx
      have hy' := (hbw.cell (p := ⟨(ad.add (k * 3)).block, (ad.add (k * 3)).off + 1, none⟩) had2).trans hy
      have hz' := (hbw.cell (p := ⟨(ad.add (k * 3)).block, (ad.add (k * 3)).off + 2, none⟩) had2).trans hz
      have ht : decide ((k : Int) < (ls.length : Int)) = true := by simp only [decide_eq_true_eq]; omega
      have hk0 : (0 : Int) ≤ (k : Int) := by omega
      have hk1 : (k : Int) < (ls.length : Int) := by omega
      have HW := Lib.hid hbw
      have HAD := Lib.hid had2
      have HS : Hid (fstZ (domAt ls x y) (ls.length - k) k = if domAt ls x y k then (k : Int) else fstZ (domAt ls x y) (ls.length - (k + 1)) (k + 1)) := by
        unfold Hid; rw [show ls.length - k = (ls.length - (k + 1)) + 1 by omega, fstZ]
      have HE : Hid (domAt ls x y k = (domB (lx ls k) (ly ls k) (ld ls k) && ((lx ls k == x && ly ls k == y) || (sndX (lx ls k) (ld ls k) == x && sndY (ly ls k) (ld ls k) == y)))) := rfl
      have HCU := Lib.hid (fun V h => CellsUnder_yes (lx ls k) (ly ls k) (ld ls k) V h)
      have HDX : Hid (Three w (ad.add (k * 3)) (lx ls k) (ly ls k) (ld ls k)) := ⟨hx, hy, hz⟩
      generalize domAt ls x y k = r at *
      generalize sndX (lx ls k) (ld ls k) = x2 at *
      generalize sndY (ly ls k) (ld ls k) = y2 at *
      generalize lx ls k = p1 at *
      generalize ly ls k = p2 at *
      generalize ld ls k = p3 at *
      clear hx hy hz hbw had2
      go_wp2_with fail
      refine (specDominoOk_any p1 p2 p3 _).mono ?_
      rintro e w3 ⟨rfl, hb3⟩
      have HB3 := Lib.hid (HB.out.trans (hb3.mono HB.out.size))
      have hbw3 := HW.out.trans (hb3.mono HW.out.size)
      have hx3 := (hbw3.cell (p := ad.add (k * 3)) HAD.out).trans HDX.out.1
      have hy3 := (hbw3.cell (p := ⟨(ad.add (k * 3)).block, (ad.add (k * 3)).off + 1, none⟩) HAD.out).trans HDX.out.2.1
      have hz3 := (hbw3.cell (p := ⟨(ad.add (k * 3)).block, (ad.add (k * 3)).off + 2, none⟩) HAD.out).trans HDX.out.2.2
      clear hb3 hbw3 hx' hy' hz'
      cases hd : domB p1 p2 p3
      · rw [hd, Bool.false_and] at HE
        have HS2 : Hid (fstZ (domAt ls x y) ls.length 0 = fstZ (domAt ls x y) (ls.length - (k + 1)) (k + 1)) := by unfold Hid; rw [HF.out, HS.out, HE.out]; rfl
        clear HS HF HE hd
        go_wp2_with fail
        go_roundw
        case rel => exact ⟨k + 1, by omega, by go_num, HB3, HS2⟩
        case measure => simp [intOf]; omega
      · rw [hd, Bool.true_and] at HE
        have HCU := Lib.hid (fun V => HCU.out V hd)
        clear hd
        go_wp2_with fail
        refine (HCU.out _).mono ?_
        rintro e w4 ⟨rfl, hb4⟩
        have HB4 := Lib.hid (HB3.out.trans (hb4.mono HB3.out.size))
        clear hb4 hx3 hy3 hz3
        go_upto_region 6 with (fail)
        obtain ⟨V, hV, k1, k2, hbV⟩ := two_alloc w4 (.cells #[.int .i64 p1, .int .i64 p2] 56) (.cells #[.int .i64 x2, .int .i64 y2] 56)
        rw [← hV]
        have HBV := Lib.hid (HB4.out.trans (hbV.mono HB4.out.size))
        have hblk := (HBV.out.block w.heap.size hs0).trans HK.out
        have b0 : V.cell? ⟨w.heap.size, 0, none⟩ = some (.int .i64 x) := by rw [blk_cell hblk]; rfl
        have b1 : V.cell? ⟨w.heap.size, 1, none⟩ = some (.int .i64 y) := by rw [blk_cell hblk]; rfl
        have c0 : V.cell? ⟨w4.heap.size, 0, none⟩ = some (.int .i64 p1) := by rw [blk_cell k1]; rfl
        have c1 : V.cell? ⟨w4.heap.size, 1, none⟩ = some (.int .i64 p2) := by rw [blk_cell k1]; rfl
        have c2 : V.cell? ⟨w4.heap.size + 1, 0, none⟩ = some (.int .i64 x2) := by rw [blk_cell k2]; rfl
        have c3 : V.cell? ⟨w4.heap.size + 1, 1, none⟩ = some (.int .i64 y2) := by rw [blk_cell k2]; rfl
        have h1 := eql_cell p1 p2 x y
        have h2 := eql_cell x2 y2 x y
        clear hV k1 k2 hbV hblk
        cases e1 : (p1 == x && p2 == y)
        · rw [e1] at h1 HE
          rw [Bool.false_or] at HE
          rw [← HE.out] at h2
          clear e1 HE
          cases r
          · have HS2 : Hid (fstZ (domAt ls x y) ls.length 0 = fstZ (domAt ls x y) (ls.length - (k + 1)) (k + 1)) := by unfold Hid; rw [HF.out, HS.out]; rfl
            go_wp2_with fail
            go_roundw
            case rel => exact ⟨k + 1, by omega, by go_num, HBV, HS2⟩
            case measure => simp [intOf]; omega
          · have HS2 : Hid (fstZ (domAt ls x y) ls.length 0 = (k : Int)) := by unfold Hid; rw [HF.out, HS.out]; rfl
            go_wp2_with fail
            go_ret
            exact ⟨ret_int HS2.out.symm, HB0.out.trans (HBV.out.mono HB0.out.size)⟩
        · rw [e1] at h1 HE
          rw [Bool.true_or] at HE
          have HS2 : Hid (fstZ (domAt ls x y) ls.length 0 = (k : Int)) := by unfold Hid; rw [HF.out, HS.out, HE.out]; rfl
          clear e1 HE h2
          go_wp2_with fail
          go_ret
          exact ⟨ret_int HS2.out.symm, HB0.out.trans (HBV.out.mono HB0.out.size)⟩
    · have HF2 : Hid (fstZ (domAt ls x y) ls.length 0 = -1) := by unfold Hid; rw [HF.out, show ls.length - k = 0 by omega]; rfl
      have ht : decide ((k : Int) < (ls.length : Int)) = false := by simp only [decide_eq_false_iff_not]; omega
      go_wp2_with fail
      go_ret
      exact ⟨ret_int HF2.out.symm, HB0.out.trans (HB.out.mono HB0.out.size)⟩
end Go.Proofs.Ytiecphhenpapoaa
