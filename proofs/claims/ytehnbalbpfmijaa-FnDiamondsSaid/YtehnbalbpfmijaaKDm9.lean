/- What the claim's walk rests on: parts Cells, Uncov, Unc, With. -/
import Derived.Test.YtehnbalbpfmijaaKDm8
import Derived.Test.YtehnbalbpfmijaaKDm6
import Derived.Test.YtehnbalbpfmijaaKDm5
import Derived.Test.YtehnbalbpfmijaaKDm2
import Derived.Test.YtehnbalbpfmijaaKDm4
import Derived.Test.YtehnbalbpfmijaaKDm1
import Derived.Deep.LoopGhost
import Derived.Deep.Cut
import Derived.StillTailTactics
namespace Go.Proofs.Ytehnbalbpfmijaa
open Go.RowKit
set_option linter.unusedVariables false

set_option maxRecDepth 100000 in
set_option maxHeartbeats 2000000 in
theorem cells_any (T : Nat) (hT : T < 18446744073709551616) (w : World) :
    Calls Try.prog 77 #[.int .u64 (T : Int)] w fun e w' => ∃ u, e = .returned u ∧ OwnF elCell w' w.heap.size u (cellsTo T 64) ∧ Below w.heap.size w w' := by
  have HS0 : Hid (Acc elCell w w.heap.size (w.alloc (.cells #[] 44)) (.slice (some ⟨w.heap.size, 0, none⟩) 0 0) []) := Acc.start w
  have HCT : Hid (∀ k, cellsTo T (k + 1) = cellsTo T k ++ (if T.testBit k then [(((k % 8 : Nat) : Int), ((k / 8 : Nat) : Int))] else [])) := fun k => rfl
  have HCL := Lib.hid (fun k => (show (cellsTo T k).length ≤ k from by rw [cellsTo_len]; exact cntB_le T k))
  have HC0 : Hid (cellsTo T 0 = []) := rfl
  obtain ⟨st, HST⟩ : ∃ st, Hid (st = cellsTo T) := ⟨_, rfl⟩
  rw [← HST.out] at HCT HCL HC0 ⊢
  obtain ⟨N, HN⟩ : ∃ N : Nat, Hid (N = 64) := ⟨_, rfl⟩
  rw [← HN.out]
  clear HST
  go_enter Try.func77, Try.ntmps77
  go_wp2_with fail
  go_loopw [3, 6] (fun o i wr => ∃ (k : Nat) (u : Value), k ≤ 64 ∧ i = .int .i64 k ∧ u = o ∧ Hid (Acc elCell w w.heap.size wr u (st k))) (fun _ i _ => 64 - (intOf i).toNat)
  case atStart => exact ⟨0, _, Nat.zero_le _, rfl, rfl, by rw [HC0.out]; exact HS0⟩
  case round =>
    obtain ⟨k, u, hk, rfl, rfl, HA⟩ := hrel
    obtain ⟨A1, ca, hv, q1, q2, _⟩ := HA.out.1.rd okCell
    subst hv
    unfold maxLen at q2
    have hlen := HCL.out k
    by_cases hlt : k < 64
    · have ht : decide ((k : Int) < 64) = true := by simp only [decide_eq_true_eq]; omega
      have hk0 : (0 : Int) ≤ (k : Int) := by omega
      have hba := bit_and T k hT
      have hsv : (T : Int) / 2 ^ k = ((T / 2 ^ k : Nat) : Int) := by simp
      have HNX := Lib.hid (HCT.out k)
      generalize st k = ys at *
      cases hb : T.testBit k
      · rw [hb] at hba HNX
        have hba2 : (bits .and .u64 ((T : Int) / 2 ^ k) 1 == 1) = false := by rw [hsv, hba]; rfl
        have HN2 : Hid (st (k + 1) = ys) := by unfold Hid; rw [HNX.out]; simp
        clear hba hsv
        go_wp2_with fail
        go_roundw
        case rel => exact ⟨k + 1, _, by omega, by go_num, rfl, by rw [HN2.out]; exact HA⟩
        case measure => simp [intOf]; omega
      · rw [hb] at hba HNX
        have hba2 : (bits .and .u64 ((T : Int) / 2 ^ k) 1 == 1) = true := by rw [hsv, hba]; rfl
        have HN2 : Hid (st (k + 1) = ys ++ [(((k % 8 : Nat) : Int), ((k / 8 : Nat) : Int))]) := by unfold Hid; rw [HNX.out]; rfl
        clear hba hsv
        go_wp2_with fail
        refine (cellAt_any k (by omega) _).mono ?_
        rintro e w2 ⟨rfl, hb2⟩
        have HA2 := Lib.hid (HA.out.below hb2)
        clear hb2
        generalize ((k % 8 : Nat) : Int) = cx at *
        generalize ((k / 8 : Nat) : Int) = cy at *
        go_wp2_with (at_builtin; refine wpList_push okCell rfl _ _ rfl HA2.out rfl (cx, cy) _ rfl _ rfl rfl (by omega) ?_; intro v10 w10 HA10 HG10)
        go_roundw
        case rel => exact ⟨k + 1, _, by omega, by go_num, rfl, by rw [HN2.out]; exact HA10⟩
        case measure => simp [intOf]; omega
    · have HK : Hid (k = N) := by unfold Hid; have := HN.out; omega
      have ht : decide ((k : Int) < 64) = false := by simp only [decide_eq_false_iff_not]; omega
      have HO : Hid (OwnF elCell wr w.heap.size (.slice A1 (st k).length ca) (st N)) := by rw [← HK.out]; exact HA.out.1
      go_wp2_with fail
      go_ret
      exact ⟨_, rfl, HO.out, HA.out.2.1⟩

/-- The set of a list of cells. -/
def sofTo (ls : List (Int × Int)) : Nat → Nat
  | 0 => 0
  | k + 1 => sofTo ls k ||| 2 ^ cix (dx ls k).toNat (dy ls k).toNat
set_option maxRecDepth 100000 in
set_option maxHeartbeats 2000000 in
theorem setOf_any (v : Value) (ls : List (Int × Int)) (hok : ∀ k, k < ls.length → (0 ≤ dx ls k ∧ dx ls k ≤ 7) ∧ 0 ≤ dy ls k ∧ dy ls k ≤ 7) (B : Nat) (w : World) (h : RdF elCell w B v ls) (hB : B ≤ w.heap.size) :
    Calls Try.prog 79 #[v] w fun e w' => e = .returned (.int .u64 (sofTo ls ls.length : Nat)) ∧ Below w.heap.size w w' := by
  have HLT : Hid (∀ k, k ≤ ls.length → sofTo ls k < 18446744073709551616) := by
    intro k
    induction k with
    | zero => intro _; simp [sofTo]
    | succ k ih =>
      intro hk
      have h1 := hok k (by omega)
      exact with_lt (ih (by omega)) (by unfold cix; omega)
  have HOK := Lib.hid hok
  have HST : Hid (∀ k, sofTo ls (k + 1) = sofTo ls k ||| 2 ^ cix (dx ls k).toNat (dy ls k).toNat) := fun k => rfl
  obtain ⟨A, c, rfl, g1, g2, G3⟩ := RdD.of (E := elCell) rfl (fun _ => rfl) h
  unfold maxLen at g2
  clear h hok
  go_enter Try.func79, Try.ntmps79
  go_wp2_with fail
  go_loopw [3, 8] (fun s i wr => ∃ k : Nat, k ≤ ls.length ∧ i = .int .i64 k ∧ s = .int .u64 (sofTo ls k : Nat) ∧ Hid (Below w.heap.size w wr)) (fun _ i _ => ls.length - (intOf i).toNat)
  case atStart => exact ⟨0, Nat.zero_le _, rfl, rfl, Below.refl _ _⟩
  case round =>
    obtain ⟨k, hk, rfl, rfl, HB⟩ := hrel
    by_cases hlt : k < ls.length
    · obtain ⟨ad, rfl, hbl, hx, hy⟩ := G3.out k hlt
      have ht : decide ((k : Int) < (ls.length : Int)) = true := by simp only [decide_eq_true_eq]; omega
      have hbl2 : (ad.add (k * 2)).block < w.heap.size := by rw [addBlock]; omega
      have hx' := (HB.out.cell (p := ad.add (k * 2)) hbl2).trans hx
      have hy' := (HB.out.cell (p := ⟨(ad.add (k * 2)).block, (ad.add (k * 2)).off + 1, none⟩) hbl2).trans hy
      have hb := HOK.out k hlt
      have HT := Lib.hid (HST.out k)
      have HCL := Lib.hid (HLT.out k (by omega))
      have hk0 : (0 : Int) ≤ (k : Int) := by omega
      have hk1 : (k : Int) < (ls.length : Int) := by omega
      obtain ⟨a, ha⟩ := Int.eq_ofNat_of_zero_le hb.1.1
      obtain ⟨b, hb'⟩ := Int.eq_ofNat_of_zero_le hb.2.1
      rw [ha, hb'] at HT
      rw [ha] at hx'
      rw [hb'] at hy'
      simp only [Int.toNat_natCast] at HT
      have HW := Lib.hid (fun V => with_yes (sofTo ls k) a b HCL.out (by omega) (by omega) V)
      rw [← HT.out] at HW
      clear hx hy hb ha hb' HT
      generalize sofTo ls k = S at *
      go_wp2_with fail
      obtain ⟨W, hW, k1, hbW⟩ := one_alloc wr (.cells #[.int .i64 (a : Int), .int .i64 (b : Int)] 44)
      rw [← hW]
      have c0 : W.cell? ⟨wr.heap.size, 0, none⟩ = some (.int .i64 (a : Int)) := by rw [blk_cell k1]; rfl
      have c1 : W.cell? ⟨wr.heap.size, 1, none⟩ = some (.int .i64 (b : Int)) := by rw [blk_cell k1]; rfl
      have HBW := Lib.hid (HB.out.trans (hbW.mono HB.out.size))
      clear hW k1 hbW hx' hy'
      go_wp2_with fail
      refine (HW.out _).mono ?_
      rintro e w1 ⟨rfl, hb1⟩
      have HB1 := Lib.hid (HBW.out.trans (hb1.mono HBW.out.size))
      clear hb1 c0 c1
      go_wp2_with fail
      go_roundw
      case rel => exact ⟨k + 1, by omega, by go_num, rfl, HB1⟩
      case measure => simp [intOf]; omega
    · have HK : Hid (k = ls.length) := by unfold Hid; omega
      have ht : decide ((k : Int) < (ls.length : Int)) = false := by simp only [decide_eq_false_iff_not]; omega
      go_wp2_with fail
      go_ret
      exact ⟨congrArg (fun n : Nat => Ending.returned (.int .u64 (sofTo ls n : Int))) HK.out, HB.out⟩
end Go.Proofs.Ytehnbalbpfmijaa

namespace Go.Proofs.Ytehnbalbpfmijaa
open Go.RowKit
set_option linter.unusedVariables false

def cEq (ls : List (Int × Int)) (x y : Int) (i : Nat) : Bool := dx ls i == x && dy ls i == y
def hasCL (ls : List (Int × Int)) (x y : Int) : Bool := decide (0 ≤ fstZ (cEq ls x y) ls.length 0)
theorem eql_cell (a b x y : Int) (W : World) : Sem.run Try.prog (binOp .eql 44 (.agg #[.int .i64 a, .int .i64 b]) (.agg #[.int .i64 x, .int .i64 y])) W = .ok (.bool (a == x && b == y)) W := by
  by_cases h1 : a = x
  · by_cases h2 : b = y
    · subst h1; subst h2
      rw [show (a == a && b == b) = true by simp]
      go_simp
    · rw [show (a == x && b == y) = false by simp [h2]]
      go_simp
  · rw [show (a == x && b == y) = false by simp [h1]]
    go_simp

/-- A domino lies over a cell. -/
def domAt (ls : List Lk) (x y : Int) (i : Nat) : Bool := domB (lx ls i) (ly ls i) (ld ls i) && ((lx ls i == x && ly ls i == y) || (sndX (lx ls i) (ld ls i) == x && sndY (ly ls i) (ld ls i) == y))
set_option maxRecDepth 100000 in
set_option maxHeartbeats 2000000 in
theorem specDominoAt_any (v : Value) (ls : List Lk) (x y : Int) (B : Nat) (w : World) (h : RdF elDomino w B v ls) (hB : B ≤ w.heap.size) :
    Calls Try.prog 108 #[v, spotV x y] w fun e w' => e = .returned (.int .i64 (fstZ (domAt ls x y) ls.length 0)) ∧ Below w.heap.size w w' := by
  obtain ⟨A, c, rfl, g1, g2, G3⟩ := RdT.of (E := elDomino) rfl (fun _ => rfl) h
  unfold maxLen at g2
  clear h
  go_enter Try.func108, Try.ntmps108
  go_wp2_with fail
  obtain ⟨W, hW, k0, hb0⟩ := one_alloc w (.cells #[.int .i64 x, .int .i64 y] 44)
  rw [← hW]
  have HK := Lib.hid k0
  have HB0 := Lib.hid hb0
  have hs0 : w.heap.size < W.heap.size := lt_of_block k0
  clear hW k0 hb0
  go_loopw [5] (fun s wr => ∃ k : Nat, k ≤ ls.length ∧ s = .int .i64 k ∧ Hid (Below W.heap.size W wr) ∧ Hid (fstZ (domAt ls x y) ls.length 0 = fstZ (domAt ls x y) (ls.length - k) k)) (fun s _ => ls.length - (intOf s).toNat)
  case atStart => exact ⟨0, Nat.zero_le _, rfl, Below.refl _ _, rfl⟩
  case round =>
    obtain ⟨k, hk, rfl, HB, HF⟩ := hrel
    by_cases hlt : k < ls.length
    · obtain ⟨ad, rfl, had, hx, hy, hz⟩ := G3.out k hlt
      have had2 : (ad.add (k * 3)).block < w.heap.size := by rw [addBlock]; omega
      have hbw := HB0.out.trans (HB.out.mono HB0.out.size)
      have hx' := (hbw.cell (p := ad.add (k * 3)) had2).trans hx
      have hy' := (hbw.cell (p := ⟨(ad.add (k * 3)).block, (ad.add (k * 3)).off + 1, none⟩) had2).trans hy
      have hz' := (hbw.cell (p := ⟨(ad.add (k * 3)).block, (ad.add (k * 3)).off + 2, none⟩) had2).trans hz
      have ht : decide ((k : Int) < (ls.length : Int)) = true := by simp only [decide_eq_true_eq]; omega
      have hk0 : (0 : Int) ≤ (k : Int) := by omega
      have hk1 : (k : Int) < (ls.length : Int) := by omega
      have HW := Lib.hid hbw
      have HAD := Lib.hid had2
      have HS : Hid (fstZ (domAt ls x y) (ls.length - k) k = if domAt ls x y k then (k : Int) else fstZ (domAt ls x y) (ls.length - (k + 1)) (k + 1)) := by
        unfold Hid; rw [show ls.length - k = (ls.length - (k + 1)) + 1 by omega, fstZ]
      have HE : Hid (domAt ls x y k = (domB (lx ls k) (ly ls k) (ld ls k) && ((lx ls k == x && ly ls k == y) || (sndX (lx ls k) (ld ls k) == x && sndY (ly ls k) (ld ls k) == y)))) := rfl
      have HCU := Lib.hid (fun V h => CellsUnder_yes (lx ls k) (ly ls k) (ld ls k) V h)
      have HDX : Hid (Three w (ad.add (k * 3)) (lx ls k) (ly ls k) (ld ls k)) := ⟨hx, hy, hz⟩
      generalize domAt ls x y k = r at *
      generalize sndX (lx ls k) (ld ls k) = x2 at *
      generalize sndY (ly ls k) (ld ls k) = y2 at *
      generalize lx ls k = p1 at *
      generalize ly ls k = p2 at *
      generalize ld ls k = p3 at *
      clear hx hy hz hbw had2
      go_wp2_with fail
      refine (specDominoOk_any p1 p2 p3 _).mono ?_
      rintro e w3 ⟨rfl, hb3⟩
      have HB3 := Lib.hid (HB.out.trans (hb3.mono HB.out.size))
      have hbw3 := HW.out.trans (hb3.mono HW.out.size)
      have hx3 := (hbw3.cell (p := ad.add (k * 3)) HAD.out).trans HDX.out.1
      have hy3 := (hbw3.cell (p := ⟨(ad.add (k * 3)).block, (ad.add (k * 3)).off + 1, none⟩) HAD.out).trans HDX.out.2.1
      have hz3 := (hbw3.cell (p := ⟨(ad.add (k * 3)).block, (ad.add (k * 3)).off + 2, none⟩) HAD.out).trans HDX.out.2.2
      clear hb3 hbw3 hx' hy' hz'
      cases hd : domB p1 p2 p3
      · rw [hd, Bool.false_and] at HE
        have HS2 : Hid (fstZ (domAt ls x y) ls.length 0 = fstZ (domAt ls x y) (ls.length - (k + 1)) (k + 1)) := by unfold Hid; rw [HF.out, HS.out, HE.out]; rfl
        clear HS HF HE hd
        go_wp2_with fail
        go_roundw
        case rel => exact ⟨k + 1, by omega, by go_num, HB3, HS2⟩
        case measure => simp [intOf]; omega
      · rw [hd, Bool.true_and] at HE
        have HCU := Lib.hid (fun V => HCU.out V hd)
        clear hd
        go_wp2_with fail
        refine (HCU.out _).mono ?_
        rintro e w4 ⟨rfl, hb4⟩
        have HB4 := Lib.hid (HB3.out.trans (hb4.mono HB3.out.size))
        clear hb4 hx3 hy3 hz3
        go_upto_region 6 with (fail)
        obtain ⟨V, hV, k1, k2, hbV⟩ := two_alloc w4 (.cells #[.int .i64 p1, .int .i64 p2] 44) (.cells #[.int .i64 x2, .int .i64 y2] 44)
        rw [← hV]
        have HBV := Lib.hid (HB4.out.trans (hbV.mono HB4.out.size))
        have hblk := (HBV.out.block w.heap.size hs0).trans HK.out
        have b0 : V.cell? ⟨w.heap.size, 0, none⟩ = some (.int .i64 x) := by rw [blk_cell hblk]; rfl
        have b1 : V.cell? ⟨w.heap.size, 1, none⟩ = some (.int .i64 y) := by rw [blk_cell hblk]; rfl
        have c0 : V.cell? ⟨w4.heap.size, 0, none⟩ = some (.int .i64 p1) := by rw [blk_cell k1]; rfl
        have c1 : V.cell? ⟨w4.heap.size, 1, none⟩ = some (.int .i64 p2) := by rw [blk_cell k1]; rfl
        have c2 : V.cell? ⟨w4.heap.size + 1, 0, none⟩ = some (.int .i64 x2) := by rw [blk_cell k2]; rfl
        have c3 : V.cell? ⟨w4.heap.size + 1, 1, none⟩ = some (.int .i64 y2) := by rw [blk_cell k2]; rfl
        have h1 := eql_cell p1 p2 x y
        have h2 := eql_cell x2 y2 x y
        clear hV k1 k2 hbV hblk
        cases e1 : (p1 == x && p2 == y)
        · rw [e1] at h1 HE
          rw [Bool.false_or] at HE
          rw [← HE.out] at h2
          clear e1 HE
          cases r
          · have HS2 : Hid (fstZ (domAt ls x y) ls.length 0 = fstZ (domAt ls x y) (ls.length - (k + 1)) (k + 1)) := by unfold Hid; rw [HF.out, HS.out]; rfl
            go_wp2_with fail
            go_roundw
            case rel => exact ⟨k + 1, by omega, by go_num, HBV, HS2⟩
            case measure => simp [intOf]; omega
          · have HS2 : Hid (fstZ (domAt ls x y) ls.length 0 = (k : Int)) := by unfold Hid; rw [HF.out, HS.out]; rfl
            go_wp2_with fail
            go_ret
            exact ⟨ret_int HS2.out.symm, HB0.out.trans (HBV.out.mono HB0.out.size)⟩
        · rw [e1] at h1 HE
          rw [Bool.true_or] at HE
          have HS2 : Hid (fstZ (domAt ls x y) ls.length 0 = (k : Int)) := by unfold Hid; rw [HF.out, HS.out, HE.out]; rfl
          clear e1 HE h2
          go_wp2_with fail
          go_ret
          exact ⟨ret_int HS2.out.symm, HB0.out.trans (HBV.out.mono HB0.out.size)⟩
    · have HF2 : Hid (fstZ (domAt ls x y) ls.length 0 = -1) := by unfold Hid; rw [HF.out, show ls.length - k = 0 by omega]; rfl
      have ht : decide ((k : Int) < (ls.length : Int)) = false := by simp only [decide_eq_false_iff_not]; omega
      go_wp2_with fail
      go_ret
      exact ⟨ret_int HF2.out.symm, HB0.out.trans (HB.out.mono HB0.out.size)⟩
end Go.Proofs.Ytehnbalbpfmijaa

namespace Go.Proofs.Ytehnbalbpfmijaa
open Go.RowKit
set_option linter.unusedVariables false

/-- Two values in blocks of their own. -/
def Sep (u v : Value) : Prop := ∀ k, u.ownBlock = some k → v.ownBlock = some k → False
theorem Sep.symm {u v : Value} (h : Sep u v) : Sep v u := fun k h1 h2 => h k h2 h1
theorem Sep.push {α : Type} {E' : El α} {wr w' : World} {lo : Nat} {u u' v : Value} {ys : List α} (hD : Sep u v) (hB : OwnF E' wr lo v ys) (G : Grew wr w' u u') : OwnF E' w' lo v ys ∧ Sep u' v := by
  obtain ⟨hg, g, h1, h2, h3⟩ := G
  refine ⟨hB.kept hg fun k hk e => hD k e.symm hk, fun k hk hv => ?_⟩
  rw [h1] at hk
  simp only [Option.some.injEq] at hk
  subst hk
  rcases h2 with h2 | h2
  · exact hD g h2 hv
  · have := hB.lt g hv; omega
theorem Sep.pushS {α : Type} {E' : El α} {wr w' : World} {lo : Nat} {u u' v : Value} {ys : List α} (hD : Sep u v) (hB : OwnF E' wr lo v ys) (G : GrewS wr w' u u') : OwnF E' w' lo v ys ∧ Sep u' v := by
  obtain ⟨hg, h2⟩ := G
  refine ⟨hB.kept hg fun k hk e => hD k e.symm hk, fun k hk hv => ?_⟩
  rcases h2 with h2 | h2
  · rw [h2] at hk; exact hD k hk hv
  · rw [h2] at hk
    simp only [Option.some.injEq] at hk
    have := hB.lt k hv; omega
theorem Sep.fresh {α : Type} {E : El α} {w : World} {lo g n c : Nat} {u : Value} {ys : List α} (h : OwnF E w lo u ys) (hg : w.heap.size ≤ g) : Sep (.slice (some ⟨g, 0, none⟩) n c) u := fun k hk hv => by
  simp only [Value.ownBlock, Option.some.injEq] at hk
  have := (h.lt k hv).2; omega
theorem Sep.newer {α : Type} {E : El α} {w : World} {lo g n c : Nat} {u : Value} {ys : List α} (h : OwnF E w lo u ys) (hg : g < lo) : Sep (.slice (some ⟨g, 0, none⟩) n c) u := fun k hk hv => by
  simp only [Value.ownBlock, Option.some.injEq] at hk
  have := (h.lt k hv).1; omega

/-- The cells of a list that no domino lies over. -/
def uncB (ls : List Lk) (x y : Int) : Bool := decide (fstZ (domAt ls x y) ls.length 0 < 0)
def uncTo (ls : List Lk) (cs : List (Int × Int)) : Nat → List (Int × Int)
  | 0 => []
  | k + 1 => if uncB ls (dx cs k) (dy cs k) then uncTo ls cs k ++ [(dx cs k, dy cs k)] else uncTo ls cs k
theorem uncTo_len (ls : List Lk) (cs : List (Int × Int)) : ∀ k, (uncTo ls cs k).length ≤ k
  | 0 => Nat.le_refl _
  | k + 1 => by have := uncTo_len ls cs k; rw [uncTo]; split <;> simp <;> omega
def uncZ (R : Nat) (ls : List Lk) : List (Int × Int) := uncTo ls (cellsTo R 64) (cellsTo R 64).length

set_option maxRecDepth 100000 in
set_option maxHeartbeats 4000000 in
theorem specUncovered_any (v u : Value) (zs : List Int) (ls : List Lk) (B : Nat) (w : World) (hr : RdI w B v zs) (h : RdF elDomino w B u ls) (hB : B ≤ w.heap.size) (hok : regOkB zs = true) :
    Calls Try.prog 167 #[.agg #[v], u] w fun e w' => ∃ x, e = .returned x ∧ OwnF elCell w' w.heap.size x (uncZ (setZ zs) ls) ∧ Below w.heap.size w w' := by
  have HU := Lib.hid hr
  have HV := Lib.hid h
  have hcl : (cellsTo (setZ zs) 64).length ≤ 64 := by rw [cellsTo_len]; exact cntB_le _ _
  have HCO := Lib.hid (fun V (hb : Below w.heap.size w V) => CellsOf_list v zs B V (HU.out.below (hb.mono hB)) (Nat.le_trans hB hb.size) hok)
  have HZ : Hid (uncZ (setZ zs) ls = uncTo ls (cellsTo (setZ zs) 64) (cellsTo (setZ zs) 64).length) := rfl
  rw [HZ.out]
  generalize cellsTo (setZ zs) 64 = cs at *
  have HST : Hid (∀ k, uncTo ls cs (k + 1) = if uncB ls (dx cs k) (dy cs k) then uncTo ls cs k ++ [(dx cs k, dy cs k)] else uncTo ls cs k) := fun k => rfl
  have HSL := Lib.hid (uncTo_len ls cs)
  have HS0 : Hid (uncTo ls cs 0 = []) := rfl
  obtain ⟨st, HE⟩ : ∃ st, Hid (st = uncTo ls cs) := ⟨_, rfl⟩
  rw [← HE.out] at HST HSL HS0 ⊢
  clear HE HZ h
  obtain ⟨A, c, rfl, h1, h2, hR⟩ := hr
  unfold maxLen at h2
  obtain ⟨W, hW, k1, hb⟩ := one_alloc w (.cells #[.slice A zs.length c] 39)
  have c0 : (W.alloc (.cells #[] 44)).cell? ⟨w.heap.size, 0, none⟩ = some (.slice A zs.length c) := by
    rw [blk_cell (((Below.refl W.heap.size W).alloc (Nat.le_refl _) _).block _ (lt_of_block k1) |>.trans k1)]; rfl
  have HB := Lib.hid hb
  have HW := Lib.hid hW
  have hBW : B ≤ W.heap.size := Nat.le_trans hB hb.size
  have HA0 : Hid (Acc elCell w w.heap.size (W.alloc (.cells #[] 44)) (.slice (some ⟨W.heap.size, 0, none⟩) 0 0) []) := Acc.startAt hb (Nat.le_refl _) hb.size
  have HG0 : Hid (W.heap.size < (W.alloc (.cells #[] 44)).heap.size) := by unfold Hid; simp
  clear hW k1 hb hR hok
  go_enter Try.func167, Try.ntmps167
  go_upto_region 1 with (fail)
  rw [← HW.out]
  go_upto_region 2 with (fail)
  generalize W.alloc (.cells #[] 44) = W1 at *
  go_wp2_with fail
  refine (HCO.out _ HA0.out.2.1).mono ?_
  rintro e w2 ⟨u1, rfl, ho, hb2⟩
  have HA2 := Lib.hid (HA0.out.below hb2)
  have HS2 := Lib.hid (Sep.newer (n := 0) (c := 0) ho HG0.out)
  have HO2 := Lib.hid (ho.mono HA0.out.2.1.size)
  obtain ⟨A2, c2, rfl, q1, q2, _⟩ := RdD.of (E := elCell) rfl (fun _ => rfl) (ho.rd okCell)
  unfold maxLen at q2
  clear c0 hb2 ho
  go_wp2_with fail
  go_loopw [5, 7] (fun o i wr => ∃ (k : Nat) (x : Value), k ≤ cs.length ∧ i = .int .i64 (k : Int) ∧ x = o ∧ Hid (Acc elCell w w.heap.size wr x (st k)) ∧ Hid (OwnF elCell wr w.heap.size (.slice A2 cs.length c2) cs) ∧ Hid (Sep x (.slice A2 cs.length c2))) (fun _ i _ => cs.length - (intOf i).toNat)
  case atStart => exact ⟨0, _, Nat.zero_le _, rfl, rfl, by rw [HS0.out]; exact HA2, HO2, HS2⟩
  case round =>
    obtain ⟨k, x, hk, rfl, rfl, HA, HO, HS⟩ := hrel
    obtain ⟨A1, ca, hv, q3, q4, _⟩ := HA.out.1.rd okCell
    subst hv
    unfold maxLen at q4
    have hlen := HSL.out k
    by_cases hlt : k < cs.length
    · have ht : decide ((k : Int) < (cs.length : Int)) = true := by simp only [decide_eq_true_eq]; omega
      obtain ⟨A9, c9, he, _, _, G9⟩ := RdD.of (E := elCell) rfl (fun _ => rfl) (HO.out.rd okCell)
      simp only [Value.slice.injEq, true_and] at he
      obtain ⟨rfl, rfl⟩ := he
      obtain ⟨ad, rfl, hbl, hx, hy⟩ := G9.out k hlt
      have HDA := Lib.hid (specDominoAt_any u ls (dx cs k) (dy cs k) B wr (HV.out.below (HA.out.2.1.mono hB)) (Nat.le_trans hB HA.out.2.1.size))
      have HT : Hid (st (k + 1) = if decide (fstZ (domAt ls (dx cs k) (dy cs k)) ls.length 0 < 0) then st k ++ [(dx cs k, dy cs k)] else st k) := HST.out k
      have hk0 : (0 : Int) ≤ (k : Int) := by omega
      have hk1 : (k : Int) < (cs.length : Int) := by omega
      generalize fstZ (domAt ls (dx cs k) (dy cs k)) ls.length 0 = q at *
      generalize dx cs k = x at *
      generalize dy cs k = y at *
      generalize st k = ys at *
      have hbl2 : (ad.add (k * 2)).block < wr.heap.size := by rw [addBlock]; omega
      have HBL := Lib.hid hbl2
      clear hbl hbl2 G9
      go_wp2_with fail
      refine HDA.out.mono ?_
      rintro e w3 ⟨rfl, hb3⟩
      have hx3 := (hb3.cell (p := ad.add (k * 2)) HBL.out).trans hx
      have hy3 := (hb3.cell (p := ⟨(ad.add (k * 2)).block, (ad.add (k * 2)).off + 1, none⟩) HBL.out).trans hy
      have HA3 := Lib.hid (HA.out.below hb3)
      have HO3 := Lib.hid (HO.out.below hb3)
      clear hb3 hx hy
      cases hq : decide (q < 0)
      · rw [hq] at HT
        have HT2 : Hid (st (k + 1) = ys) := HT.out
        clear HT
        go_wp2_with fail
        go_roundw
        case rel => exact ⟨k + 1, _, by omega, by go_num, rfl, by rw [HT2.out]; exact HA3, HO3, HS⟩
        case measure => simp [intOf]; omega
      · rw [hq] at HT
        have HT2 : Hid (st (k + 1) = ys ++ [(x, y)]) := HT.out
        clear HT
        go_wp2_with (at_builtin; refine wpList_push okCell rfl _ _ rfl HA3.out rfl (x, y) _ rfl _ rfl rfl (by omega) ?_; intro v10 w10 HA10 HG10)
        have HP := Lib.hid (HS.out.push HO3.out HG10.out)
        go_roundw
        case rel => exact ⟨k + 1, _, by omega, by go_num, rfl, by rw [HT2.out]; exact HA10, HP.out.1, HP.out.2⟩
        case measure => simp [intOf]; omega
    · obtain rfl : k = cs.length := by omega
      have ht : decide ((cs.length : Int) < (cs.length : Int)) = false := by simp
      go_wp2_with fail
      go_ret
      exact ⟨_, rfl, HA.out.1, HA.out.2.1⟩
end Go.Proofs.Ytehnbalbpfmijaa

namespace Go.Proofs.Ytehnbalbpfmijaa
open Go.RowKit
set_option linter.unusedVariables false

end Go.Proofs.Ytehnbalbpfmijaa

namespace Go.Proofs.Ytehnbalbpfmijaa
open Go.RowKit
set_option linter.unusedVariables false

def lessN (s m : Nat) : Nat := s &&& (18446744073709551615 - m)
theorem lessN_bit (s m j : Nat) (hm : m < 18446744073709551616) (hj : j < 64) : (lessN s m).testBit j = (s.testBit j && !m.testBit j) := by
  unfold lessN
  rw [Nat.testBit_and]
  have h := Nat.testBit_two_pow_sub_succ (x := m) (n := 64) (by simpa using hm) j
  rw [show 2 ^ 64 - (m + 1) = 18446744073709551615 - m by omega] at h
  rw [h]
  simp [hj]
theorem lessN_lt (s m : Nat) (hs : s < 18446744073709551616) : lessN s m < 18446744073709551616 := Nat.lt_of_le_of_lt Nat.and_le_left hs
/-- The four cells of a square. -/
def qx (a j : Nat) : Nat := if j % 2 = 1 then a + 1 else a
def qy (b j : Nat) : Nat := if 2 ≤ j then b + 1 else b
def sqL (a b : Nat) : List (Int × Int) := [((a : Int), (b : Int)), ((a : Int) + 1, (b : Int)), ((a : Int), (b : Int) + 1), ((a : Int) + 1, (b : Int) + 1)]
theorem sqL_at (a b j : Nat) (hj : j < 4) : dx (sqL a b) j = ((qx a j : Nat) : Int) ∧ dy (sqL a b) j = ((qy b j : Nat) : Int) := by
  match j, hj with
  | 0, _ => simp [sqL, dx, dy, qx, qy]
  | 1, _ => simp [sqL, dx, dy, qx, qy]
  | 2, _ => simp [sqL, dx, dy, qx, qy]
  | 3, _ => simp [sqL, dx, dy, qx, qy]
theorem q_le (a b j : Nat) (ha : a ≤ 7) (hb : b ≤ 7) : qx a j ≤ 8 ∧ qy b j ≤ 8 := by unfold qx qy; constructor <;> split <;> omega
/-- The first j of them lie in a set. -/
def allTo (T a b : Nat) : Nat → Bool
  | 0 => true
  | j + 1 => allTo T a b j && hasC T (qx a j) (qy b j)
theorem allTo_in {T a b : Nat} (h : allTo T a b 4 = true) : a ≤ 6 ∧ b ≤ 6 := by
  simp only [allTo, qx, qy, hasC, Bool.and_eq_true, decide_eq_true_eq] at h
  have := h.2.1
  simp at this
  omega
def esI (L0 : Nat) (cs : List (Int × Int)) : Nat → Nat × List (Int × Int)
  | 0 => (L0, [])
  | k + 1 => if allTo (esI L0 cs k).1 (dx cs k).toNat (dy cs k).toNat 4 then
      (lessN (esI L0 cs k).1 (sofTo (sqL (dx cs k).toNat (dy cs k).toNat) 4), (esI L0 cs k).2 ++ [(dx cs k, dy cs k)]) else esI L0 cs k
theorem esI_len (L0 : Nat) (cs : List (Int × Int)) : ∀ k, (esI L0 cs k).2.length ≤ k
  | 0 => Nat.le_refl _
  | k + 1 => by have := esI_len L0 cs k; rw [esI]; split <;> simp <;> omega
theorem esI_lt (L0 : Nat) (h : L0 < 18446744073709551616) (cs : List (Int × Int)) : ∀ k, (esI L0 cs k).1 < 18446744073709551616
  | 0 => h
  | k + 1 => by
    have := esI_lt L0 h cs k
    rw [esI]; split
    · exact lessN_lt _ _ this
    · exact this
theorem cellsTo_in (T : Nat) : ∀ n, n ≤ 64 → ∀ c ∈ cellsTo T n, ∃ a b : Nat, c = ((a : Int), (b : Int)) ∧ a ≤ 7 ∧ b ≤ 7
  | 0, _, c, h => by simp [cellsTo] at h
  | n + 1, hn, c, h => by
    rw [cellsTo, List.mem_append] at h
    rcases h with h | h
    · exact cellsTo_in T n (by omega) c h
    · split at h
      · simp only [List.mem_singleton] at h; exact ⟨n % 8, n / 8, h, by omega, by omega⟩
      · simp at h
theorem cellsTo_at (T : Nat) (k : Nat) (hk : k < (cellsTo T 64).length) : ∃ a b : Nat, dx (cellsTo T 64) k = (a : Int) ∧ dy (cellsTo T 64) k = (b : Int) ∧ a ≤ 7 ∧ b ≤ 7 := by
  obtain ⟨a, b, h, ha, hb⟩ := cellsTo_in T 64 (Nat.le_refl _) _ (List.getElem_mem hk)
  refine ⟨a, b, ?_, ?_, ha, hb⟩
  · simp [dx, List.getD_eq_getElem?_getD, hk, h]
  · simp [dy, List.getD_eq_getElem?_getD, hk, h]
theorem sofTo_lt (ls : List (Int × Int)) (hok : ∀ k, k < ls.length → (0 ≤ dx ls k ∧ dx ls k ≤ 7) ∧ 0 ≤ dy ls k ∧ dy ls k ≤ 7) : ∀ k, k ≤ ls.length → sofTo ls k < 18446744073709551616
  | 0, _ => by simp [sofTo]
  | k + 1, hk => by
    have h1 := hok k (by omega)
    exact with_lt (sofTo_lt ls hok k (by omega)) (by unfold cix; omega)
theorem sqL_ok {a b : Nat} (ha : a ≤ 6) (hb : b ≤ 6) (k : Nat) (hk : k < (sqL a b).length) : (0 ≤ dx (sqL a b) k ∧ dx (sqL a b) k ≤ 7) ∧ 0 ≤ dy (sqL a b) k ∧ dy (sqL a b) k ≤ 7 := by
  have h4 : k < 4 := hk
  rw [(sqL_at a b k h4).1, (sqL_at a b k h4).2]
  unfold qx qy
  split <;> split <;> omega
/-- A slice of the cells just laid. -/
theorem litF {α : Type} {E : El α} (w : World) (cs : Array Value) (xs : List α) (n : Nat) (hn : n = xs.length) (hl : n ≤ maxLen) (hc : cs.toList = xs.flatMap E.f) (hE : ∀ x, (E.f x).length = E.s) : OwnF E (w.alloc (.cells cs E.e)) w.heap.size (.slice (some ⟨w.heap.size, 0, none⟩) n n) xs := by
  subst hn
  unfold OwnF
  rw [← hc]
  exact World.ownsRow_lit w cs xs.length (Nat.le_refl _) hl (by rw [← Array.length_toList, hc, flat_length hE])
def esZ (n : Int) (ls : List Lk) : List (Int × Int) :=
  if growB n ls then
    (fun L : Nat => (esI L (cellsTo L 64) (cellsTo L 64).length).2) (lessN (setZ (diamZ (n.toNat + 1))) (covTo (growZ n ls) (growZ n ls).length))
  else []

set_option maxRecDepth 100000 in
set_option maxHeartbeats 8000000 in
theorem EmptySquares_yes (n : Nat) (v : Value) (ls : List Lk) (B : Nat) (w : World) (h : RdF elDomino w B v ls) (hB : B ≤ w.heap.size) (hn : 1 ≤ n ∧ n ≤ 3) (hg : growB (n : Int) ls = true) :
    Calls Try.prog 23 #[.int .i64 (n : Int), v] w fun e w' => ∃ x, e = .returned x ∧ OwnF elCell w' w.heap.size x (esZ n ls) ∧ Below w.heap.size w w' := by
  have HGD := Lib.hid (GrowDiamond_any (n : Int) v ls B w h hB)
  rw [hg] at HGD
  have HZ : Hid (esZ n ls = (fun L : Nat => (esI L (cellsTo L 64) (cellsTo L 64).length).2) (lessN (setZ (diamZ (n + 1))) (covTo (growZ n ls) (growZ n ls).length))) := by
    unfold Hid esZ; rw [hg]; rfl
  rw [HZ.out]
  have HD : Hid (∀ V, Calls Try.prog 24 #[.int .i64 ((n : Int) + 1)] V fun e w' => ∃ u, e = .returned (.agg #[u]) ∧ RdI w' w'.heap.size u (diamZ (n + 1)) ∧ Below V.heap.size V w') := fun V => by
    have h9 := Diamond_yes (n + 1) (by omega) V
    rw [show ((n + 1 : Nat) : Int) = (n : Int) + 1 by omega] at h9
    exact h9
  have HOK := Lib.hid (diam_ok (n + 1) (by omega))
  have hR := setZ_lt (diam_ok (n + 1) (by omega))
  generalize growZ (n : Int) ls = gs at *
  generalize diamZ (n + 1) = zs at *
  have hCV := covTo_lt gs gs.length
  have HAN : Hid (bits .andNot .u64 (setZ zs : Int) (covTo gs gs.length : Int) = ((lessN (setZ zs) (covTo gs gs.length) : Nat) : Int)) := u64_andNot_nat _ _ hR hCV
  have hL0 := lessN_lt (setZ zs) (covTo gs gs.length) hR
  have HSET := Lib.hid (fun V u hu => rset_any u zs V.heap.size V hu (Nat.le_refl _) HOK.out)
  have HCOV := Lib.hid (fun V u hu => covered_any u gs V.heap.size V hu (Nat.le_refl _))
  generalize lessN (setZ zs) (covTo gs gs.length) = L0 at *
  generalize setZ zs = R at *
  generalize covTo gs gs.length = C at *
  have HCELLS := Lib.hid (fun V => cells_any L0 hL0 V)
  have HCA := Lib.hid (cellsTo_at L0)
  have hcl : (cellsTo L0 64).length ≤ 64 := by rw [cellsTo_len]; exact cntB_le _ _
  show Calls _ _ _ _ fun e w' => ∃ x, e = .returned x ∧ OwnF elCell w' w.heap.size x (esI L0 (cellsTo L0 64) (cellsTo L0 64).length).2 ∧ Below w.heap.size w w'
  generalize cellsTo L0 64 = cs at *
  have HST : Hid (∀ k, esI L0 cs (k + 1) = if allTo (esI L0 cs k).1 (dx cs k).toNat (dy cs k).toNat 4 then
      (lessN (esI L0 cs k).1 (sofTo (sqL (dx cs k).toNat (dy cs k).toNat) 4), (esI L0 cs k).2 ++ [(dx cs k, dy cs k)]) else esI L0 cs k) := fun k => rfl
  have HSL := Lib.hid (esI_len L0 cs)
  have HSB := Lib.hid (esI_lt L0 hL0 cs)
  have HS0 : Hid (esI L0 cs 0 = (L0, [])) := rfl
  obtain ⟨st, HE⟩ : ∃ st, Hid (st = esI L0 cs) := ⟨_, rfl⟩
  rw [← HE.out] at HST HSL HSB HS0 ⊢
  have hn0 : (0 : Int) ≤ (n : Int) := by omega
  have hn3 : (n : Int) ≤ 3 := by omega
  clear HE HZ h hg
  go_enter Try.func23, Try.ntmps23
  go_wp2_with fail
  refine HGD.out.mono ?_
  rintro e w1 ⟨u1, rfl, ho1, hb1⟩
  have HO1 := Lib.hid ho1
  have HB1 := Lib.hid hb1
  clear ho1 hb1
  go_wp2_with fail
  refine (HD.out _).mono ?_
  rintro e w2 ⟨u2, rfl, hr2, hb2⟩
  have HR2 := Lib.hid hr2
  have HO2 := Lib.hid (HO1.out.below hb2)
  have HB2 := Lib.hid (HB1.out.trans (hb2.mono HB1.out.size))
  clear hr2 hb2
  go_wp2_with fail
  refine (HSET.out _ u2 HR2.out).mono ?_
  rintro e w3 ⟨rfl, hb3⟩
  have HO3 := Lib.hid (HO2.out.below hb3)
  have HB3 := Lib.hid (HB2.out.trans (hb3.mono HB2.out.size))
  clear hb3
  go_wp2_with fail
  refine (HCOV.out _ u1 (HO3.out.rd okDomino)).mono ?_
  rintro e w4 ⟨rfl, hb4⟩
  have HB4 := Lib.hid (HB3.out.trans (hb4.mono HB3.out.size))
  have han := HAN.out
  clear hb4
  have HA5 : Hid (Acc elCell w w.heap.size (w4.alloc (.cells #[] 44)) (.slice (some ⟨w4.heap.size, 0, none⟩) 0 0) []) := Acc.startAt HB4.out (Nat.le_refl _) HB4.out.size
  have HG5 : Hid (w4.heap.size < (w4.alloc (.cells #[] 44)).heap.size) := by unfold Hid; simp
  go_upto_region 5 with (fail)
  generalize w4.alloc (.cells #[] 44) = w5 at *
  go_wp2_with fail
  refine (HCELLS.out _).mono ?_
  rintro e w6 ⟨u6, rfl, ho, hb6⟩
  have HA6 := Lib.hid (HA5.out.below hb6)
  have HS6 := Lib.hid (Sep.newer (n := 0) (c := 0) ho HG5.out)
  have HO6 := Lib.hid (ho.mono HA5.out.2.1.size)
  obtain ⟨A2, c2, rfl, q1, q2, _⟩ := RdD.of (E := elCell) rfl (fun _ => rfl) (ho.rd okCell)
  unfold maxLen at q2
  clear hb6 ho han
  go_wp2_with fail
  go_loopw [7, 8, 34] (fun L o i wr => ∃ (k : Nat) (x : Value), k ≤ cs.length ∧ i = .int .i64 (k : Int) ∧ x = o ∧ L = .int .u64 ((st k).1 : Int) ∧ Hid (Acc elCell w w.heap.size wr x (st k).2) ∧ Hid (OwnF elCell wr w.heap.size (.slice A2 cs.length c2) cs) ∧ Hid (Sep x (.slice A2 cs.length c2))) (fun _ _ i _ => cs.length - (intOf i).toNat)
  case atStart => exact ⟨0, _, Nat.zero_le _, rfl, rfl, by rw [HS0.out], by rw [HS0.out]; exact HA6, HO6, HS6⟩
  case round =>
    obtain ⟨k, x, hk, rfl, rfl, rfl, HA, HO, HS⟩ := hrel
    obtain ⟨⟨T, ys⟩, HSK⟩ : ∃ s, Hid (st k = s) := ⟨_, rfl⟩
    have hlen := HSL.out k
    have HTL := Lib.hid (HSB.out k)
    have HT := Lib.hid (HST.out k)
    rw [HSK.out] at HA hlen HTL HT ⊢
    dsimp only at HA hlen HTL HT ⊢
    obtain ⟨A1, ca, hv, q3, q4, _⟩ := HA.out.1.rd okCell
    subst hv
    unfold maxLen at q4
    by_cases hlt : k < cs.length
    · have ht : decide ((k : Int) < (cs.length : Int)) = true := by simp only [decide_eq_true_eq]; omega
      obtain ⟨A9, c9, he, _, _, G9⟩ := RdD.of (E := elCell) rfl (fun _ => rfl) (HO.out.rd okCell)
      simp only [Value.slice.injEq, true_and] at he
      obtain ⟨rfl, rfl⟩ := he
      obtain ⟨ad, rfl, hbl, hx, hy⟩ := G9.out k hlt
      obtain ⟨a, b, hea, heb, ha7, hb7⟩ := HCA.out k hlt
      rw [hea, heb] at HT
      rw [hea] at hx
      rw [heb] at hy
      simp only [Int.toNat_natCast] at HT
      have hk0 : (0 : Int) ≤ (k : Int) := by omega
      have hk1 : (k : Int) < (cs.length : Int) := by omega
      clear hbl G9 hea heb
      go_upto_region 8 with (fail)
      obtain ⟨V, hV, k9, hbV⟩ := one_alloc wr (.cells #[.int .i64 (a : Int), .int .i64 (b : Int)] 44)
      rw [← hV]
      obtain ⟨vn, hvn⟩ : ∃ vn, wr.heap.size = vn := ⟨_, rfl⟩
      have HAV := Lib.hid (HA.out.below hbV)
      have HOV := Lib.hid (HO.out.below hbV)
      rw [hvn] at k9 ⊢
      have HKV := Lib.hid k9
      have e0 : V.cell? ⟨vn, 0, none⟩ = some (.int .i64 (a : Int)) := by rw [blk_cell k9]; rfl
      have e1 : V.cell? ⟨vn, 1, none⟩ = some (.int .i64 (b : Int)) := by rw [blk_cell k9]; rfl
      clear hV k9 hbV hx hy
      go_upto_region 9 with (fail)
      obtain ⟨sn, hsn⟩ : ∃ sn, V.heap.size = sn := ⟨_, rfl⟩
      generalize hX : World.alloc V _ = X
      have HLX : Hid (OwnF elCell X sn (.slice (some ⟨sn, 0, none⟩) 4 4) (sqL a b)) := by
        unfold Hid; rw [← hX, ← hsn]; exact litF (E := elCell) V _ (sqL a b) 4 rfl (by decide) rfl okCell.len
      have hbX : Below V.heap.size V X := by rw [← hX]; exact (Below.refl _ _).alloc (Nat.le_refl _) _
      have HAX := Lib.hid (HAV.out.below hbX)
      have HOX := Lib.hid (HOV.out.below hbX)
      have HKX := Lib.hid (blk_below HKV.out hbX)
      rw [hsn]
      clear hX hbX e0 e1
      go_wp2_with fail
      have HQT : Hid (∀ j, allTo T a b (j + 1) = (allTo T a b j && hasC T (qx a j) (qy b j))) := fun j => rfl
      have HQ0 : Hid (allTo T a b 0 = true) := rfl
      have HQI := Lib.hid (fun h => allTo_in (T := T) (a := a) (b := b) h)
      have HQL := Lib.hid (q_le a b)
      have HQS := Lib.hid (sqL_at a b)
      have HSL4 : Hid ((sqL a b).length = 4) := rfl
      obtain ⟨al, HAL⟩ : ∃ al, Hid (al = allTo T a b) := ⟨_, rfl⟩
      rw [← HAL.out] at HQT HQ0 HQI HT
      clear HAL
      go_loopw [12, 61] (fun f j wi => ∃ i : Nat, i ≤ 4 ∧ j = .int .i64 (i : Int) ∧ f = .bool (al i) ∧ Hid (Below X.heap.size X wi)) (fun _ j _ => 4 - (intOf j).toNat)
      case atStart => exact ⟨0, Nat.zero_le _, rfl, by rw [HQ0.out], Below.refl _ _⟩
      case round =>
        obtain ⟨i, hi, rfl, rfl, HBI⟩ := hrel
        by_cases hi4 : i < 4
        · have hti : decide ((i : Int) < 4) = true := by simp only [decide_eq_true_eq]; omega
          have hi0 : (0 : Int) ≤ (i : Int) := by omega
          have hi1 : (i : Int) < 4 := by omega
          obtain ⟨_, _, he, _, _, G9⟩ := RdD.of (E := elCell) rfl (fun _ => rfl) ((HLX.out.below HBI.out).rd okCell)
          simp only [Value.slice.injEq] at he
          obtain ⟨rfl, h44, rfl⟩ := he
          clear h44
          obtain ⟨ad, had, hbl, hx, hy⟩ := G9.out i (by rw [HSL4.out]; exact hi4)
          simp only [Option.some.injEq] at had
          subst had
          rw [(HQS.out i hi4).1] at hx
          rw [(HQS.out i hi4).2] at hy
          have hq := HQL.out i ha7 hb7
          have HTI := Lib.hid (HQT.out i)
          generalize qx a i = x at *
          generalize qy b i = y at *
          have HHS := Lib.hid (fun V => has_any T x y HTL.out hq.1 hq.2 V)
          generalize hasC T x y = r at *
          generalize al i = ai at *
          have had : (⟨sn, 0, none⟩ : Addr).add (i * 2) = ⟨sn, i * 2, none⟩ := by
            unfold Addr.add; split
            · rename_i h0; rw [h0]
            · simp
          rw [had] at hx hy
          dsimp only at hx hy
          have HXY := Lib.hid (And.intro hx hy)
          clear hbl G9
          go_upto_region 13 with (fail)
          obtain ⟨U, hU, ku, hbU⟩ := one_alloc wr (.cells #[.int .i64 (x : Int), .int .i64 (y : Int)] 44)
          rw [← hU]
          obtain ⟨un, hun⟩ : ∃ un, wr.heap.size = un := ⟨_, rfl⟩
          have HBU := Lib.hid (HBI.out.trans (hbU.mono HBI.out.size))
          rw [hun] at ku ⊢
          have e0 : U.cell? ⟨un, 0, none⟩ = some (.int .i64 (x : Int)) := by rw [blk_cell ku]; rfl
          have e1 : U.cell? ⟨un, 1, none⟩ = some (.int .i64 (y : Int)) := by rw [blk_cell ku]; rfl
          clear hU ku hbU hx hy
          cases ai
          · have HTF : Hid (al (i + 1) = false) := by unfold Hid; rw [HTI.out]; rfl
            go_wp2_with fail
            go_roundw
            case rel => exact ⟨i + 1, by omega, by go_num, by rw [HTF.out], HBU⟩
            case measure => simp [intOf]; omega
          · have HTF : Hid (al (i + 1) = r) := by unfold Hid; rw [HTI.out]; rfl
            go_wp2_with fail
            refine (HHS.out _).mono ?_
            rintro e w8 ⟨rfl, hb8⟩
            have HB8 := Lib.hid (HBU.out.trans (hb8.mono HBU.out.size))
            clear hb8 e0 e1
            go_wp2_with fail
            go_roundw
            case rel => exact ⟨i + 1, by omega, by go_num, by rw [HTF.out], HB8⟩
            case measure => simp [intOf]; omega
        · have HI4 : Hid (i = 4) := by unfold Hid; omega
          have hti : decide ((i : Int) < 4) = false := by simp only [decide_eq_false_iff_not]; omega
          have HAI := Lib.hid (HAX.out.below HBI.out)
          have HOI := Lib.hid (HOX.out.below HBI.out)
          have HKI := Lib.hid (blk_below HKX.out HBI.out)
          have HLI := Lib.hid (HLX.out.below HBI.out)
          have e0 : wr.cell? ⟨vn, 0, none⟩ = some (.int .i64 (a : Int)) := by rw [blk_cell HKI.out]; rfl
          have e1 : wr.cell? ⟨vn, 1, none⟩ = some (.int .i64 (b : Int)) := by rw [blk_cell HKI.out]; rfl
          obtain rfl : i = 4 := HI4.out
          generalize hal : al 4 = ai at *
          cases ai
          · have HT2 : Hid (st (k + 1) = (T, ys)) := HT.out
            go_wp2_with fail
            go_roundw
            case rel => exact ⟨k + 1, _, by omega, by go_num, rfl, by rw [HT2.out], by rw [HT2.out]; exact HAI, HOI, HS⟩
            case measure => simp [intOf]; omega
          · obtain ⟨ha6, hb6⟩ := HQI.out rfl
            have HT2 : Hid (st (k + 1) = (lessN T (sofTo (sqL a b) 4), ys ++ [((a : Int), (b : Int))])) := HT.out
            have HSO := Lib.hid (setOf_any (.slice (some ⟨sn, 0, none⟩) 4 4) (sqL a b) (sqL_ok ha6 hb6) wr.heap.size wr (HLI.out.rd okCell) (Nat.le_refl _))
            have hS := sofTo_lt (sqL a b) (sqL_ok ha6 hb6) 4 (Nat.le_refl _)
            rw [HSL4.out] at HSO
            generalize sofTo (sqL a b) 4 = S at *
            have han : bits .andNot .u64 (T : Int) (S : Int) = ((lessN T S : Nat) : Int) := u64_andNot_nat _ _ HTL.out hS
            go_wp2_with fail
            refine HSO.out.mono ?_
            rintro e w9 ⟨rfl, hb9⟩
            have HA9 := Lib.hid (HAI.out.below hb9)
            have HO9 := Lib.hid (HOI.out.below hb9)
            have HK9 := Lib.hid (blk_below HKI.out hb9)
            clear e0 e1 hb9
            have e0 : w9.cell? ⟨vn, 0, none⟩ = some (.int .i64 (a : Int)) := by rw [blk_cell HK9.out]; rfl
            have e1 : w9.cell? ⟨vn, 1, none⟩ = some (.int .i64 (b : Int)) := by rw [blk_cell HK9.out]; rfl
            go_wp2_with (at_builtin; refine wpList_push okCell rfl _ _ rfl HA9.out rfl ((a : Int), (b : Int)) _ rfl _ rfl rfl (by omega) ?_; intro v10 w10 HA10 HG10)
            have HP := Lib.hid (HS.out.push HO9.out HG10.out)
            go_roundw
            case rel => exact ⟨k + 1, _, by omega, by go_num, rfl, by rw [HT2.out], by rw [HT2.out]; exact HA10, HP.out.1, HP.out.2⟩
            case measure => simp [intOf]; omega
    · obtain rfl : k = cs.length := by omega
      have ht : decide ((cs.length : Int) < (cs.length : Int)) = false := by simp
      go_wp2_with fail
      go_ret
      exact ⟨_, rfl, by rw [HSK.out]; exact HA.out.1, HA.out.2.1⟩

set_option maxRecDepth 100000 in
set_option maxHeartbeats 2000000 in
theorem EmptySquares_any (n : Int) (v : Value) (ls : List Lk) (B : Nat) (w : World) (h : RdF elDomino w B v ls) (hB : B ≤ w.heap.size) :
    Calls Try.prog 23 #[.int .i64 n, v] w fun e w' => ∃ x, e = .returned x ∧ OwnF elCell w' w.heap.size x (esZ n ls) ∧ Below w.heap.size w w' := by
  cases hf : growB n ls
  · have HZ : Hid (esZ n ls = []) := by unfold Hid esZ; rw [hf]; rfl
    rw [HZ.out]
    have HGD := Lib.hid (GrowDiamond_any n v ls B w h hB)
    rw [hf] at HGD
    clear h hf
    go_enter Try.func23, Try.ntmps23
    go_wp2_with fail
    refine HGD.out.mono ?_
    rintro e w1 ⟨u1, rfl, ho1, hb1⟩
    have HB1 := Lib.hid hb1
    clear ho1 hb1
    go_wp2_with fail
    go_ret
    exact ⟨_, rfl, OwnF.nil, HB1.out⟩
  · have h9 := hf
    unfold growB at h9
    simp only [Bool.and_eq_true, inB_iff] at h9
    obtain ⟨n, rfl⟩ := Int.eq_ofNat_of_zero_le (show 0 ≤ n by omega)
    exact EmptySquares_yes n v ls B w h hB (by omega) hf
end Go.Proofs.Ytehnbalbpfmijaa

namespace Go.Proofs.Ytehnbalbpfmijaa
open Go.RowKit
set_option linter.unusedVariables false

theorem fstZ_neg (p : Nat → Bool) (n : Nat) : fstZ p n 0 < 0 ↔ ∀ i, i < n → p i = false := by
  rcases fstZ_spec p n 0 with ⟨h1, h2⟩ | ⟨j, h1, h2, h3, h4, h5⟩
  · rw [h1]
    exact ⟨fun _ i hi => h2 i (by omega) (by omega), fun _ => by omega⟩
  · rw [h1]
    refine ⟨fun h => absurd h (by omega), fun h => ?_⟩
    rw [h j (by omega)] at h4
    simp at h4
theorem hasCL_iff (ls : List (Int × Int)) (x y : Int) : hasCL ls x y = true ↔ (x, y) ∈ ls := by
  have h := fstZ_neg (cEq ls x y) ls.length
  unfold hasCL
  rw [decide_eq_true_eq, List.mem_iff_getElem]
  constructor
  · intro h1
    have h2 : ¬ ∀ i, i < ls.length → cEq ls x y i = false := fun h9 => by have := h.2 h9; omega
    simp only [Classical.not_forall] at h2
    obtain ⟨i, hi, h3⟩ := h2
    refine ⟨i, hi, ?_⟩
    simp only [cEq, Bool.not_eq_false, Bool.and_eq_true, beq_iff_eq, dx, dy, List.getD_eq_getElem?_getD, List.getElem?_eq_getElem hi, Option.getD_some] at h3
    exact Prod.ext h3.1 h3.2
  · rintro ⟨i, hi, h1⟩
    by_cases h2 : 0 ≤ fstZ (cEq ls x y) ls.length 0
    · exact h2
    · have h3 := h.1 (by omega) i hi
      simp only [cEq, dx, dy, List.getD_eq_getElem?_getD, List.getElem?_eq_getElem hi, Option.getD_some, h1] at h3
      simp at h3
theorem bool_ext {a b : Bool} (h : a = true ↔ b = true) : a = b := by cases a <;> cases b <;> simp_all
/-- The cells under a domino. -/
theorem dM_bit (l : Lk) (h : domL l = true) (x y : Nat) (hx : x ≤ 7) (hy : y ≤ 7) : (dM l).testBit (cix x y) = ((l.1 == (x : Int) && l.2.1 == (y : Int)) || (sndX l.1 l.2.2 == (x : Int) && sndY l.2.1 l.2.2 == (y : Int))) := by
  obtain ⟨a, b, d⟩ := l
  have hd := (domB_iff _ _ _).1 h
  obtain ⟨a, rfl⟩ := Int.eq_ofNat_of_zero_le hd.1.1
  obtain ⟨b, rfl⟩ := Int.eq_ofNat_of_zero_le hd.1.2
  refine bool_ext ?_
  have h2 := hd.2
  dsimp only
  cases d
  · have hw : wrap64 ((a : Int) + 1) = (a : Int) + 1 := IntWalk.wrap64_in _ (by have h3 := hd.2; simp at h3; omega)
    simp only [dM, domM, Int.toNat_natCast, Nat.testBit_or, Nat.testBit_two_pow, Bool.or_eq_true, decide_eq_true_eq, Bool.and_eq_true, beq_iff_eq, sndX, sndY, cix, if_false, Bool.false_eq_true] at h2 ⊢
    simp [hw] at h2 ⊢
    omega
  · have hw : wrap64 ((b : Int) + 1) = (b : Int) + 1 := IntWalk.wrap64_in _ (by have h3 := hd.2; simp at h3; omega)
    simp only [dM, domM, Int.toNat_natCast, Nat.testBit_or, Nat.testBit_two_pow, Bool.or_eq_true, decide_eq_true_eq, Bool.and_eq_true, beq_iff_eq, sndX, sndY, cix, if_true] at h2 ⊢
    simp [hw] at h2 ⊢
    omega
theorem cov_bit (ls : List Lk) (x y : Nat) (hx : x ≤ 7) (hy : y ≤ 7) : ∀ k, (covTo ls k).testBit (cix x y) = true ↔ ∃ i, i < k ∧ domAt ls x y i = true
  | 0 => by simp [covTo]
  | k + 1 => by
    have ih := cov_bit ls x y hx hy k
    have hstep : (covTo ls (k + 1)).testBit (cix x y) = true ↔ (covTo ls k).testBit (cix x y) = true ∨ domAt ls x y k = true := by
      rw [covTo]
      unfold domAt
      cases hd : domL (dAt ls k)
      · have hd2 : domB (lx ls k) (ly ls k) (ld ls k) = false := hd
        simp [hd2]
      · have hd2 : domB (lx ls k) (ly ls k) (ld ls k) = true := hd
        have hb : (dM (dAt ls k)).testBit (cix x y) = _ := dM_bit (dAt ls k) hd x y hx hy
        rw [if_pos rfl, Nat.testBit_or, hb, hd2]
        simp only [Bool.or_eq_true, Bool.true_and, dAt]
    rw [hstep, ih]
    constructor
    · rintro (⟨i, h1, h2⟩ | h)
      · exact ⟨i, by omega, h2⟩
      · exact ⟨k, by omega, h⟩
    · rintro ⟨i, h1, h2⟩
      by_cases e : i = k
      · subst e; exact .inr h2
      · exact .inl ⟨i, by omega, h2⟩
theorem unc_bit (ls : List Lk) (x y : Nat) (hx : x ≤ 7) (hy : y ≤ 7) : uncB ls (x : Int) (y : Int) = !(covTo ls ls.length).testBit (cix x y) := by
  refine bool_ext ?_
  unfold uncB
  rw [decide_eq_true_eq, fstZ_neg]
  have h := cov_bit ls x y hx hy ls.length
  constructor
  · intro h1
    cases hc : (covTo ls ls.length).testBit (cix x y)
    · rfl
    · obtain ⟨i, h2, h3⟩ := h.1 hc
      rw [h1 i h2] at h3; simp at h3
  · intro h1 i hi
    cases hd : domAt ls x y i
    · rfl
    · rw [h.2 ⟨i, hi, hd⟩] at h1; simp at h1
theorem uncTo_take (ls : List Lk) (cs : List (Int × Int)) : ∀ k, k ≤ cs.length → uncTo ls cs k = (cs.take k).filter (fun c => uncB ls c.1 c.2)
  | 0, _ => by simp [uncTo]
  | k + 1, hk => by
    have hd : (dx cs k, dy cs k) = cs[k]'(by omega) := by simp [dx, dy, List.getD_eq_getElem?_getD, List.getElem?_eq_getElem (show k < cs.length by omega)]
    rw [uncTo, uncTo_take ls cs k (by omega), List.take_add_one, List.getElem?_eq_getElem (show k < cs.length by omega), List.filter_append, hd]
    have h1 : dx cs k = (cs[k]'(by omega)).1 := by rw [← hd]
    have h2 : dy cs k = (cs[k]'(by omega)).2 := by rw [← hd]
    rw [h1, h2]
    cases hu : uncB ls (cs[k]'(by omega)).1 (cs[k]'(by omega)).2 <;> simp [hu]
theorem unc_cells (R : Nat) (hR : R < 18446744073709551616) (ls : List Lk) : uncZ R ls = cellsTo (lessN R (covTo ls ls.length)) 64 := by
  unfold uncZ
  rw [uncTo_take _ _ _ (Nat.le_refl _), List.take_length]
  have key : ∀ n, n ≤ 64 → (cellsTo R n).filter (fun c => uncB ls c.1 c.2) = cellsTo (lessN R (covTo ls ls.length)) n := by
    intro n
    induction n with
    | zero => intro _; simp [cellsTo]
    | succ n ih =>
      intro hn
      rw [cellsTo, cellsTo, List.filter_append, ih (by omega)]
      congr 1
      have e : cix (n % 8) (n / 8) = n := by unfold cix; omega
      have hu := unc_bit ls (n % 8) (n / 8) (by omega) (by omega)
      rw [e] at hu
      rw [lessN_bit _ _ _ (covTo_lt ls ls.length) (by omega)]
      cases hb : R.testBit n
      · simp
      · cases hc : (covTo ls ls.length).testBit n
        · rw [hc, Bool.not_false] at hu; simp only [if_true, List.filter_cons, hu, List.filter_nil, Bool.not_false, Bool.and_true]
        · rw [hc, Bool.not_true] at hu; simp only [if_true, List.filter_cons, hu, List.filter_nil, Bool.not_true, Bool.and_false]
  exact key 64 (Nat.le_refl _)
theorem cells_mem (T : Nat) (x y : Nat) : ∀ n, n ≤ 64 → ((((x : Int), (y : Int)) ∈ cellsTo T n) ↔ x ≤ 7 ∧ y ≤ 7 ∧ cix x y < n ∧ T.testBit (cix x y) = true)
  | 0, _ => by simp [cellsTo]
  | n + 1, hn => by
    rw [cellsTo, List.mem_append, cells_mem T x y n (by omega)]
    constructor
    · rintro (⟨h1, h2, h3, h4⟩ | h)
      · exact ⟨h1, h2, by omega, h4⟩
      · split at h
        · rename_i hb
          simp only [List.mem_singleton, Prod.mk.injEq] at h
          have e1 : x = n % 8 := by omega
          have e2 : y = n / 8 := by omega
          have e : cix x y = n := by unfold cix; omega
          exact ⟨by omega, by omega, by omega, by rw [e]; exact hb⟩
        · simp at h
    · rintro ⟨h1, h2, h3, h4⟩
      by_cases e : cix x y = n
      · refine .inr ?_
        rw [e] at h4
        rw [if_pos h4]
        unfold cix at e
        simp only [List.mem_singleton, Prod.mk.injEq]
        omega
      · exact .inl ⟨h1, h2, by omega, h4⟩
/-- What the reference keeps: the cells that are taken, and the squares. -/
def frTo (l tk : List (Int × Int)) (a b : Nat) : Nat → Bool
  | 0 => true
  | j + 1 => frTo l tk a b j && hasCL l (qx a j : Nat) (qy b j : Nat) && !hasCL tk (qx a j : Nat) (qy b j : Nat)
def esS (l : List (Int × Int)) : Nat → List (Int × Int) × List (Int × Int)
  | 0 => ([], [])
  | k + 1 => if frTo l (esS l k).1 (dx l k).toNat (dy l k).toNat 4 then ((esS l k).1 ++ sqL (dx l k).toNat (dy l k).toNat, (esS l k).2 ++ [(dx l k, dy l k)]) else esS l k
theorem esS_len (l : List (Int × Int)) : ∀ k, (esS l k).1.length ≤ 4 * k ∧ (esS l k).2.length ≤ k
  | 0 => ⟨Nat.le_refl _, Nat.le_refl _⟩
  | k + 1 => by
    have := esS_len l k; rw [esS]; split
    · simp [sqL]; omega
    · omega
theorem sq_bit (a b x y : Nat) (ha : a ≤ 6) (hb : b ≤ 6) (hx : x ≤ 7) (hy : y ≤ 7) : (sofTo (sqL a b) 4).testBit (cix x y) = true ↔ ((x : Int), (y : Int)) ∈ sqL a b := by
  have e1 : ((a : Int) + 1).toNat = a + 1 := by omega
  have e2 : ((b : Int) + 1).toNat = b + 1 := by omega
  simp only [sofTo, sqL, dx, dy, List.getD_cons_zero, List.getD_cons_succ, Nat.testBit_or, Nat.testBit_two_pow, Int.toNat_natCast, e1, e2, Nat.zero_testBit, Bool.false_or, Bool.or_eq_true, decide_eq_true_eq, List.mem_cons, List.not_mem_nil, or_false, Prod.mk.injEq, cix]
  omega
theorem es_same (L0 : Nat) (hL : L0 < 18446744073709551616) : ∀ k, k ≤ (cellsTo L0 64).length →
    (esI L0 (cellsTo L0 64) k).2 = (esS (cellsTo L0 64) k).2 ∧ ∀ x y : Nat, hasC (esI L0 (cellsTo L0 64) k).1 x y = (hasCL (cellsTo L0 64) x y && !hasCL (esS (cellsTo L0 64) k).1 x y)
  | 0, _ => by
    refine ⟨rfl, fun x y => ?_⟩
    have h0 : hasCL (esS (cellsTo L0 64) 0).1 x y = false := rfl
    rw [h0]
    refine bool_ext ?_
    rw [Bool.not_false, Bool.and_true, hasCL_iff, cells_mem L0 x y 64 (Nat.le_refl _)]
    show hasC L0 x y = true ↔ _
    simp only [hasC, hasB, Bool.and_eq_true, decide_eq_true_eq]
    constructor
    · rintro ⟨⟨h1, h2⟩, h3⟩
      exact ⟨h1, h2, by unfold cix; omega, h3⟩
    · rintro ⟨h1, h2, h3, h4⟩
      exact ⟨⟨h1, h2⟩, h4⟩
  | k + 1, hk => by
    obtain ⟨h1, h2⟩ := es_same L0 hL k (by omega)
    obtain ⟨a, b, ha, hb, ha7, hb7⟩ := cellsTo_at L0 k (by omega)
    have hTL := esI_lt L0 hL (cellsTo L0 64) k
    rw [esI, esS, ha, hb]
    simp only [Int.toNat_natCast]
    obtain ⟨⟨T, o⟩, hI⟩ : ∃ s, esI L0 (cellsTo L0 64) k = s := ⟨_, rfl⟩
    obtain ⟨⟨tk, o'⟩, hS⟩ : ∃ s, esS (cellsTo L0 64) k = s := ⟨_, rfl⟩
    rw [hI] at h1 h2 hTL ⊢
    rw [hS] at h1 h2 ⊢
    dsimp only at h1 h2 hTL ⊢
    have hall : ∀ j, allTo T a b j = frTo (cellsTo L0 64) tk a b j := by
      intro j
      induction j with
      | zero => rfl
      | succ j ih => rw [allTo, frTo, ih, h2, Bool.and_assoc]
    rw [← hall 4]
    cases hf : allTo T a b 4
    · exact ⟨h1, h2⟩
    · obtain ⟨ha6, hb6⟩ := allTo_in hf
      simp only [if_true]
      refine ⟨by rw [h1], fun x y => ?_⟩
      have hs := sofTo_lt (sqL a b) (sqL_ok ha6 hb6) 4 (Nat.le_refl _)
      have hl : hasC (lessN T (sofTo (sqL a b) 4)) x y = (hasC T x y && !hasCL (sqL a b) x y) := by
        by_cases h7 : x ≤ 7 ∧ y ≤ 7
        · have hq : (sofTo (sqL a b) 4).testBit (cix x y) = hasCL (sqL a b) x y := bool_ext (by rw [hasCL_iff]; exact sq_bit a b x y ha6 hb6 h7.1 h7.2)
          simp only [hasC, hasB, h7.1, h7.2, decide_true, Bool.true_and]
          rw [lessN_bit _ _ _ hs (by unfold cix; omega), hq]
        · have h9 : ∀ U, hasC U x y = false := fun U => by
            unfold hasC
            by_cases e : x ≤ 7
            · have : ¬ y ≤ 7 := fun h => h7 ⟨e, h⟩
              simp [this]
            · simp [e]
          rw [h9, h9]; rfl
      have hm : hasCL (tk ++ sqL a b) x y = (hasCL tk x y || hasCL (sqL a b) x y) := bool_ext (by rw [hasCL_iff, List.mem_append, Bool.or_eq_true, hasCL_iff, hasCL_iff])
      rw [hl, hm, h2]
      cases hasCL (cellsTo L0 64) x y <;> cases hasCL tk x y <;> cases hasCL (sqL a b) x y <;> rfl
end Go.Proofs.Ytehnbalbpfmijaa

namespace Go.Proofs.Ytehnbalbpfmijaa
open Go.RowKit
set_option linter.unusedVariables false

theorem esZ_spec (n : Int) (ls : List Lk) (h : growB n ls = true) :
    esZ n ls = (fun l : List (Int × Int) => (esS l l.length).2) (uncZ (setZ (diamZ (n.toNat + 1))) (growZ n ls)) ∧ ∃ T, uncZ (setZ (diamZ (n.toNat + 1))) (growZ n ls) = cellsTo T 64 := by
  have h9 := h
  unfold growB at h9
  simp only [Bool.and_eq_true, inB_iff] at h9
  have hR := setZ_lt (diam_ok (n.toNat + 1) (by omega))
  have hu := unc_cells _ hR (growZ n ls)
  unfold esZ
  rw [h, hu]
  exact ⟨(es_same _ (lessN_lt _ _ hR) _ (Nat.le_refl _)).1, _, rfl⟩

end Go.Proofs.Ytehnbalbpfmijaa

namespace Go.Proofs.Ytehnbalbpfmijaa
open Go.RowKit
set_option linter.unusedVariables false

theorem OwnI.stow {w : World} {lo g n cap : Nat} {zs : List Int} (h : OwnI w lo (.slice (some ⟨g, 0, none⟩) n cap) zs) (hl : zs.length = n) (i : Nat) (z : Int) : OwnI (w.setCell ⟨g, i, none⟩ (.int .i64 z)) lo (.slice (some ⟨g, 0, none⟩) n cap) (zs.set i z) := by
  subst hl
  have hst := World.ownsRow.stored h i (.int .i64 z)
  unfold OwnI
  rw [List.length_set, List.map_set]
  exact hst.1
theorem OwnI.look {w : World} {lo g n cap : Nat} {zs : List Int} (h : OwnI w lo (.slice (some ⟨g, 0, none⟩) n cap) zs) (hl : zs.length = n) {i : Nat} (hi : i < n) : w.cell? ⟨g, i, none⟩ = some (.int .i64 (el zs i)) ∧ w.frozen? ⟨g, i, none⟩ = false := by
  subst hl
  refine ⟨?_, World.ownsRow.frozenAt h i⟩
  rw [World.ownsRow.cellAt h i (by omega), List.getElem?_map, List.getElem?_eq_getElem (by omega), el_get _ _ (by omega)]; rfl

theorem flat_intW (zs : List Int) : zs.flatMap elInt.f = zs.map (Value.int .i64) := by
  induction zs with
  | nil => rfl
  | cons z zs ih => rw [List.flatMap_cons, ih]; rfl
set_option maxRecDepth 100000 in
set_option maxHeartbeats 700000 in
theorem l03Copy_yes (v : Value) (zs : List Int) (B : Nat) (w : World) (h : RdI w B v zs) (hB : B ≤ w.heap.size) (hl : zs.length ≤ 8) :
    Calls Try.prog 176 #[.agg #[v]] w fun e w' => ∃ u, e = .returned (.agg #[u]) ∧ OwnI w' w.heap.size u zs ∧ Below w.heap.size w w' := by
  obtain ⟨A, c, rfl, g1, g2, hR⟩ := id h
  unfold maxLen at g2
  obtain ⟨W, hW, k0, k1, hb0⟩ := two_alloc w (.cells #[.slice A zs.length c] 39) (.cells #[.slice none 0 0] 39)
  have HK1 := Lib.hid k1
  have HB0 := Lib.hid hb0
  have hba : Below W.heap.size W (W.alloc (.cells #[] 3)) := (Below.refl _ _).alloc (Nat.le_refl _) _
  have c0 : (W.alloc (.cells #[] 3)).cell? ⟨w.heap.size, 0, none⟩ = some (.slice A zs.length c) := by rw [blk_cell (blk_below k0 hba)]; rfl
  have HACC : Hid (Acc elInt W W.heap.size (W.alloc (.cells #[] 3)) (.slice (some ⟨W.heap.size, 0, none⟩) 0 0) []) := Acc.start W
  have HRA : Hid (Rd (W.alloc (.cells #[] 3)) B A (zs.flatMap elInt.f)) := by
    have e := flat_intW zs
    unfold Hid
    rw [e]
    exact hR.below ((hb0.trans (hba.mono hb0.size)).mono hB)
  have HHL := Lib.hid hl
  clear h hR hl k0 k1 hb0 hba
  go_enter Try.func176, Try.ntmps176
  go_upto_region 1 with (fail)
  rw [← hW]
  clear hW
  go_wp2_with (at_builtin; refine wpList_pushSrc okInt rfl rfl _ _ rfl HACC.out rfl zs B A zs.length c HRA.out rfl rfl (by have := HHL.out; simp; omega) ?_; intro u1 w1 HA1 HG1; rw [List.nil_append] at HA1; have HKW := Lib.hid (blk_below HK1.out HA1.out.2.1); have f1 := free_of_one HKW.out; have d1 := cell_of_one HKW.out; have HO1 := Lib.hid (ownF_int.1 HA1.out.1); have HB1 := Lib.hid (HB0.out.trans (HA1.out.2.1.mono HB0.out.size)); obtain ⟨A1, c1, hu1, _⟩ := HO1.out.rd; subst hu1)
  have hlo := HO1.out.lt
  have hsz : w.heap.size + 1 < W.heap.size := lt_of_block HK1.out
  have k9 : (w1.setCell ⟨w.heap.size + 1, 0, none⟩ (.slice A1 zs.length c1)).heap[w.heap.size + 1]? = some (.cells #[.slice A1 zs.length c1] 39 (0, 0)) := (blk_setCell HKW.out _).trans (by simp)
  have r0 : (w1.setCell ⟨w.heap.size + 1, 0, none⟩ (.slice A1 zs.length c1)).cell? ⟨w.heap.size + 1, 0, none⟩ = some (.slice A1 zs.length c1) := cell_of_one k9
  have HN : Hid (OwnI (w1.setCell ⟨w.heap.size + 1, 0, none⟩ (.slice A1 zs.length c1)) w.heap.size (.slice A1 zs.length c1) zs) := (HO1.out.setCell (p := ⟨w.heap.size + 1, 0, none⟩) hsz _).mono (by omega)
  have HBN : Hid (Below w.heap.size w (w1.setCell ⟨w.heap.size + 1, 0, none⟩ (.slice A1 zs.length c1))) := HB1.out.setCell (Nat.le_succ _) _
  clear k9 hlo
  refine bodyPost_ret (v := .agg #[.slice A1 zs.length c1]) (by simp [results, Try.results176, go_sem, r0]) rfl ⟨_, rfl, HN.out, HBN.out⟩

/-- The rows, made eight. -/
def padZ (zs : List Int) (j : Nat) : List Int := zs ++ List.replicate j 0
/-- The rows without a cell. -/
def offRow (zs : List Int) (x y : Nat) : List Int := (padZ zs (8 - zs.length)).set y ((((el (padZ zs (8 - zs.length)) y).toNat ||| 2 ^ x) - 2 ^ x : Nat) : Int)
theorem padZ_el (zs : List Int) (j k : Nat) : el (padZ zs j) k = if k < zs.length then el zs k else 0 := by
  unfold padZ el
  rw [List.getD_eq_getElem?_getD, List.getD_eq_getElem?_getD, List.getElem?_append]
  by_cases h : k < zs.length
  · rw [if_pos h, if_pos h]
  · rw [if_neg h, if_neg h]
    by_cases h2 : k - zs.length < j
    · rw [List.getElem?_eq_getElem (by simpa using h2)]; simp
    · rw [List.getElem?_eq_none (by simp; omega)]; rfl

structure WB (w wr : World) (lo p6 pc m8 : Nat) (x y : Nat) (v : Value) (zs : List Int) : Prop where
  c6 : wr.heap[p6]? = some (.cells #[.slice none 0 0] 39 (0, 0))
  cc : wr.heap[pc]? = some (.cells #[.int .i64 (x : Int), .int .i64 (y : Int)] 44 (0, 0))
  c8 : wr.heap[m8]? = some (.cells #[v] 39 (0, 0))
  acc : Acc elInt w lo wr v zs
  ne : ∀ g, v.ownBlock = some g → g ≠ m8
  l6 : w.heap.size ≤ p6
  lc : w.heap.size ≤ pc
  h6 : p6 < lo
  hc : pc < lo
  l8 : lo ≤ m8
theorem WB.below {w wr w1 : World} {lo p6 pc m8 x y : Nat} {v : Value} {zs : List Int} (h : WB w wr lo p6 pc m8 x y v zs) (hb : Below wr.heap.size wr w1) : WB w w1 lo p6 pc m8 x y v zs :=
  ⟨blk_below h.c6 hb, blk_below h.cc hb, blk_below h.c8 hb, h.acc.below hb, h.ne, h.l6, h.lc, h.h6, h.hc, h.l8⟩
theorem WB.push {w wr w2 : World} {lo p6 pc m8 x y : Nat} {v v' : Value} {zs zs' : List Int} (h : WB w wr lo p6 pc m8 x y v zs) (HA : Acc elInt w lo w2 v' zs') (HG : Grew wr w2 v v') :
    WB w (w2.setCell ⟨m8, 0, none⟩ v') lo p6 pc m8 x y v' zs' ∧ ∃ u, w2.heap[m8]? = some (.cells #[u] 39 (0, 0)) := by
  obtain ⟨g1, g, g2, g3, g4⟩ := HG
  have h6 := h.h6
  have hc := h.hc
  have hl8 := h.l8
  have h8 := lt_of_block h.c8
  have hown := h.acc.1.lt
  have k6 : w2.heap[p6]? = _ := (g1.block p6 (by omega) fun e => by have := (hown p6 e.symm).1; omega).trans h.c6
  have kc : w2.heap[pc]? = _ := (g1.block pc (by omega) fun e => by have := (hown pc e.symm).1; omega).trans h.cc
  have k8 : w2.heap[m8]? = _ := (g1.block m8 h8 fun e => h.ne m8 e.symm rfl).trans h.c8
  have hg : g ≠ m8 := by
    rcases g3 with g3 | g3
    · exact h.ne g g3
    · omega
  have hw : w.heap.size ≤ m8 := Nat.le_trans h.acc.2.2.1 hl8
  refine ⟨⟨(Below.heap_setCell _ _ _ _ (by show p6 ≠ m8; omega)).trans k6, (Below.heap_setCell _ _ _ _ (by show pc ≠ m8; omega)).trans kc, (blk_setCell k8 _).trans (by simp), ⟨HA.1.same fun k hk => Below.heap_setCell _ _ _ _ ?_, HA.2.1.setCell hw _, HA.2.2.1, by simpa using HA.2.2.2⟩, fun k hk => ?_, h.l6, h.lc, h.h6, h.hc, h.l8⟩, ⟨_, k8⟩⟩
  · rw [g2] at hk
    obtain rfl := Option.some.inj hk
    exact hg
  · rw [g2] at hk
    obtain rfl := Option.some.inj hk
    exact hg
theorem WB.store {w wr : World} {lo p6 pc m8 x y g n cap : Nat} {zs : List Int} (h : WB w wr lo p6 pc m8 x y (.slice (some ⟨g, 0, none⟩) n cap) zs) (hl : zs.length = n) (i : Nat) (z : Int) :
    WB w (wr.setCell ⟨g, i, none⟩ (.int .i64 z)) lo p6 pc m8 x y (.slice (some ⟨g, 0, none⟩) n cap) (zs.set i z) := by
  have hg := h.acc.1.lt g rfl
  have hn := h.ne g rfl
  have h6 := h.h6
  have hc := h.hc
  have hw := h.acc.2.2.1
  exact ⟨(Below.heap_setCell _ _ _ _ (by show p6 ≠ g; omega)).trans h.c6, (Below.heap_setCell _ _ _ _ (by show pc ≠ g; omega)).trans h.cc, (Below.heap_setCell _ _ _ _ (by show m8 ≠ g; omega)).trans h.c8,
    ⟨ownF_int.2 ((ownF_int.1 h.acc.1).stow hl i z), h.acc.2.1.setCell (by show w.heap.size ≤ g; omega) _, hw, by simpa using h.acc.2.2.2⟩, h.ne, h.l6, h.lc, h.h6, h.hc, h.l8⟩
theorem shl_w (x : Nat) (hx : x ≤ 7) : wrap64 ((2 : Int) ^ x) = ((2 ^ x : Nat) : Int) ∧ IntKind.i64.wrap ((2 : Int) ^ x) = ((2 ^ x : Nat) : Int) ∧ 2 ^ x ≤ 128 := by
  have h : (2 ^ x : Nat) ≤ 2 ^ 7 := Nat.pow_le_pow_right (by omega) hx
  have e : ((2 : Int) ^ x) = ((2 ^ x : Nat) : Int) := by simp
  rw [e]
  generalize (2 ^ x : Nat) = p at *
  simp at h
  refine ⟨?_, IntWalk.i64_in _ (by omega), h⟩
  unfold wrap64
  omega
theorem i64_orW (a b : Nat) (ha : a < 4611686018427387904) (hb : b < 4611686018427387904) : bits .or .i64 (a : Int) (b : Int) = ((a ||| b : Nat) : Int) := by
  have hlt : a ||| b < 2 ^ 62 := Nat.or_lt_two_pow (by omega) (by omega)
  have ea : ((a : Int) % ((2 ^ 64 : Nat) : Int)).toNat = a := by omega
  have eb : ((b : Int) % ((2 ^ 64 : Nat) : Int)).toNat = b := by omega
  have key : (BitVec.ofInt 64 (a : Int) ||| BitVec.ofInt 64 (b : Int)).toNat = a ||| b := by
    rw [BitVec.toNat_or, BitVec.toNat_ofInt, BitVec.toNat_ofInt, ea, eb]
  show IntKind.i64.wrap ((BitVec.ofInt 64 (a : Int) ||| BitVec.ofInt 64 (b : Int)).toNat : Nat) = _
  rw [key, IntKind.wrap_i64]
  generalize a ||| b = q at *
  simp at hlt
  omega
theorem sub_w {ro q2 : Nat} (h : q2 ≤ ro) (h2 : ro ≤ 255) : IntKind.i64.wrap ((ro : Int) - (q2 : Int)) = ((ro - q2 : Nat) : Int) ∧ (ro : Int) - (q2 : Int) = ((ro - q2 : Nat) : Int) ∧ wrap64 ((ro - q2 : Nat) : Int) = ((ro - q2 : Nat) : Int) := by
  have e : (ro : Int) - (q2 : Int) = ((ro - q2 : Nat) : Int) := by omega
  exact ⟨by rw [e]; exact IntWalk.i64_in _ (by omega), e, by unfold wrap64; omega⟩
theorem or_at {r x : Nat} (hr : r ≤ 255) (hx : x ≤ 7) : bits .or .i64 (r : Int) ((2 ^ x : Nat) : Int) = ((r ||| 2 ^ x : Nat) : Int) ∧ r ||| 2 ^ x ≤ 255 ∧ 2 ^ x ≤ r ||| 2 ^ x := by
  have h : (2 ^ x : Nat) < 2 ^ 8 := Nat.pow_lt_pow_right (by omega) (by omega)
  have h2 := Nat.or_lt_two_pow (n := 8) (show r < 2 ^ 8 by omega) h
  refine ⟨i64_orW _ _ (by omega) (by omega), by omega, Nat.right_le_or⟩

set_option maxRecDepth 100000 in
set_option maxHeartbeats 700000 in
theorem WithCell_off (v : Value) (zs : List Int) (B : Nat) (w : World) (h : RdI w B v zs) (hB : B ≤ w.heap.size) (hok : regOkB zs = true) (x y : Nat) (hx : x ≤ 7) (hy : y ≤ 7) :
    Calls Try.prog 164 #[.agg #[v], spotV x y, .bool false] w fun e w' => ∃ u, e = .returned (.tuple #[.agg #[u], .bool true]) ∧ OwnI w' w.heap.size u (offRow zs x y) ∧ Below w.heap.size w w' := by
  have hl8 := regOk_len hok
  have hcok : spotB 7 (x : Int) (y : Int) = true := (spotB_iff _ _ _).2 ⟨by omega, by omega⟩
  have HCP := Lib.hid (fun V (hb : Below w.heap.size w V) => l03Copy_yes v zs B V (h.below (hb.mono hB)) (Nat.le_trans hB hb.size) hl8)
  have HRO := Lib.hid (fun V (hb : Below w.heap.size w V) => specRegionOk_yes v zs B V (h.below (hb.mono hB)) (Nat.le_trans hB hb.size) hok)
  have hpl : (padZ zs (8 - zs.length)).length = 8 := by unfold padZ; rw [List.length_append, List.length_replicate]; omega
  have hel : 0 ≤ el (padZ zs (8 - zs.length)) y ∧ el (padZ zs (8 - zs.length)) y ≤ 255 := by
    rw [padZ_el]
    split
    · exact regOk_el hok (by assumption)
    · omega
  obtain ⟨r, hr⟩ := Int.eq_ofNat_of_zero_le hel.1
  have hr255 : r ≤ 255 := by omega
  obtain ⟨ho1, ho2, ho3⟩ := or_at hr255 hx
  obtain ⟨hs1, hs2, hs3⟩ := shl_w x hx
  have HOR : Hid (offRow zs x y = ((padZ zs (8 - zs.length)).set y ((r ||| 2 ^ x : Nat) : Int)).set y (((r ||| 2 ^ x) - 2 ^ x : Nat) : Int)) := by
    unfold Hid offRow
    rw [hr, Int.toNat_natCast, List.set_set]
  rw [HOR.out]
  have HPZ : Hid (∀ j, padZ zs (j + 1) = padZ zs j ++ [0]) := fun j => by unfold padZ; rw [List.replicate_succ', List.append_assoc]
  have HP0 : Hid (padZ zs 0 = zs) := by unfold Hid padZ; simp
  have HPLN : Hid (∀ j, (padZ zs j).length = zs.length + j) := fun j => by unfold padZ; simp
  have HR := Lib.hid hr
  have HO1 := Lib.hid ho1
  obtain ⟨q2, HQ2⟩ : ∃ q2, Hid ((2 ^ x : Nat) = q2) := ⟨_, rfl⟩
  rw [HQ2.out] at hs1 hs2 hs3 HO1 ho2 ho3 ⊢
  obtain ⟨ro, HRO2⟩ : ∃ ro, Hid (r ||| q2 = ro) := ⟨_, rfl⟩
  rw [HRO2.out] at HO1 ho2 ho3 ⊢
  obtain ⟨hsb1, hsb2, hsb3⟩ := sub_w ho3 ho2
  have HW1 := Lib.hid hs1; have HW2 := Lib.hid hs2; have HSB1 := Lib.hid hsb1; have HSB2 := Lib.hid hsb2; have HSB3 := Lib.hid hsb3
  clear HQ2 HRO2 hel ho1 HOR hok hpl hs1 hs2 hsb1 hsb2 hsb3 hr
  obtain ⟨A, c, rfl, g1, g2, _⟩ := h
  unfold maxLen at g2
  obtain ⟨W, hW, k0, k1, k2, hb0⟩ := three_alloc w (.cells #[.slice A zs.length c] 39) (.cells #[.int .i64 (x : Int), .int .i64 (y : Int)] 44) (.cells #[.slice none 0 0] 39)
  have c0 : W.cell? ⟨w.heap.size, 0, none⟩ = some (.slice A zs.length c) := by rw [blk_cell k0]; rfl
  have HK0 := Lib.hid k0; have HK1 := Lib.hid k1; have HK2 := Lib.hid k2
  have HB0 := Lib.hid hb0
  have HWS : Hid (W.heap.size = w.heap.size + 3) := by unfold Hid; rw [hW]; simp
  go_enter Try.func164, Try.ntmps164
  go_upto_region 1 with (fail)
  rw [← hW]
  clear hW k0 k1 k2 hb0
  go_wp2_with fail
  refine (HCP.out W HB0.out).mono ?_
  rintro e w1 ⟨u1, rfl, ho1, hb1⟩
  have HB1 := Lib.hid (HB0.out.trans (hb1.mono HB0.out.size))
  obtain ⟨W2, hW2, k8, hb2⟩ := one_alloc w1 (.cells #[u1] 39)
  have HWB : Hid (WB w W2 W.heap.size (w.heap.size + 2) (w.heap.size + 1) w1.heap.size x y u1 (padZ zs 0)) := by
    have hs := hb1.size
    have hws := HWS.out
    unfold Hid
    rw [HP0.out]
    refine ⟨blk_below (blk_below HK2.out hb1) hb2, blk_below (blk_below HK1.out hb1) hb2, k8, ⟨ownF_int.2 (ho1.below hb2), HB1.out.trans (hb2.mono HB1.out.size), by omega, Nat.le_trans hs hb2.size⟩, fun g hg => ?_, by omega, by omega, by omega, by omega, hs⟩
    have := (ho1.lt g hg).2
    omega
  have HB2 := Lib.hid (HB1.out.trans (hb2.mono HB1.out.size))
  have d0 : W2.cell? ⟨w.heap.size, 0, none⟩ = some (.slice A zs.length c) := by rw [blk_cell (blk_below (blk_below HK0.out hb1) hb2)]; rfl
  have HW2 := Lib.hid hW2
  rw [hW2] at d0
  obtain ⟨A1, ca1, hu1, _⟩ := ho1.rd
  subst hu1
  clear hW2 k8 hb1 hb2 c0 ho1
  go_wp2_with fail
  rw [← HW2.out]
  clear d0 HW2
  refine (HRO.out W2 HB2.out).mono ?_
  rintro e w3 ⟨rfl, hb3⟩
  have HWB3 := Lib.hid (HWB.out.below hb3)
  have HB3 := Lib.hid (HB2.out.trans (hb3.mono HB2.out.size))
  have e0 : w3.cell? ⟨w.heap.size + 1, 0, none⟩ = some (.int .i64 (x : Int)) := by rw [blk_cell HWB3.out.cc]; rfl
  have e1 : w3.cell? ⟨w.heap.size + 1, 1, none⟩ = some (.int .i64 (y : Int)) := by rw [blk_cell HWB3.out.cc]; rfl
  clear hb3
  go_wp2_with fail
  refine (specCellOk_any _ _ _).mono ?_
  rintro e w4 ⟨rfl, hb4⟩
  rw [hcok]
  have HWB4 := Lib.hid (HWB3.out.below hb4)
  clear hb4 e0 e1
  go_wp2_with fail
  go_loopg [] (8 - zs.length) (fun gk wr => ∃ (j : Nat) (u : Value), gk + j = 8 - zs.length ∧ Hid (WB w wr W.heap.size (w.heap.size + 2) (w.heap.size + 1) w1.heap.size x y u (padZ zs j)))
  case atStart => exact ⟨0, _, by omega, HWB4⟩
  case round =>
    obtain ⟨j, u, hj, HQ⟩ := hrel
    by_cases hlt : zs.length + j < 8
    · obtain ⟨Au, cu, hu, q1, q2, _⟩ := HQ.out.acc.1.rd okInt
      subst hu
      unfold maxLen at q2
      have m8 := cell_of_one HQ.out.c8
      have ht : decide (((padZ zs j).length : Int) < 8) = true := by simp only [decide_eq_true_eq]; have := HPLN.out j; omega
      have hps : (padZ zs j).length ≤ 8 := by have := HPLN.out j; omega
      have HPJ := Lib.hid (HPZ.out j)
      generalize padZ zs j = ps at *
      go_wp2_with (at_builtin; refine wpList_push okInt rfl _ _ rfl HQ.out.acc rfl (0 : Int) _ rfl _ rfl rfl (by omega) ?_; intro v10 w10 HA10 HG10; obtain ⟨A10, k10, hv10, _⟩ := HA10.out.1.rd okInt; rw [show (ps ++ [(0 : Int)]).length = ps.length + 1 by simp] at hv10; subst hv10; have HP10 := Lib.hid (HQ.out.push HA10.out HG10.out); obtain ⟨u9, hk9⟩ := HP10.out.2; have ck := cell_of_one hk9; have fk := free_of_one hk9; clear hk9)
      go_roundg (gk - 1)
      case measure => omega
      case rel => exact ⟨j + 1, _, by omega, by rw [HPJ.out]; exact HP10.out.1⟩
    · obtain rfl : gk = 0 := by omega
      obtain rfl : j = 8 - zs.length := by omega
      have HLN : Hid ((padZ zs (8 - zs.length)).length = 8) := by unfold Hid; rw [HPLN.out]; omega
      have ht : decide (((padZ zs (8 - zs.length)).length : Int) < 8) = false := by rw [HLN.out]; rfl
      have ho := ownF_int.1 HQ.out.acc.1
      have hps : (padZ zs (8 - zs.length)).length ≤ 8 := Nat.le_of_eq HLN.out
      obtain ⟨gg, cgg, hv1, hgb, hglt⟩ := World.ownsRow.form ho (by rw [HLN.out]; omega)
      subst hv1
      have m8 := cell_of_one HQ.out.c8
      obtain ⟨e0, fr⟩ := ho.look (i := y) rfl (by rw [HLN.out]; omega)
      rw [HR.out] at e0
      have xc0 : wr.cell? ⟨w.heap.size + 1, 0, none⟩ = some (.int .i64 (x : Int)) := by rw [blk_cell HQ.out.cc]; rfl
      have xc1 : wr.cell? ⟨w.heap.size + 1, 1, none⟩ = some (.int .i64 (y : Int)) := by rw [blk_cell HQ.out.cc]; rfl
      have hy0 : (0 : Int) ≤ (y : Int) := by omega
      have hy1 : (y : Int) < ((padZ zs (8 - zs.length)).length : Int) := by rw [HLN.out]; omega
      have hx0 : (0 : Int) ≤ (x : Int) := by omega
      have hx1 : (x : Int) < 64 := by omega
      have hw1 := HW1.out; have hw2 := HW2.out; have hor := HO1.out
      clear ho hlt
      generalize hps0 : padZ zs (8 - zs.length) = ps at *
      have HPS := Lib.hid hps0
      clear hps0
      go_wp2_with fail
      go_still_tail 15, (by kernel_rfl)
      change wpList _ _ _ _ _ wr.drew
      have HQd := Lib.hid (HQ.out.below (Below.refl wr.heap.size wr).drew)
      clear m8 e0 fr xc0 xc1 hor HQ
      generalize wr.drew = V at *
      obtain ⟨_, fr⟩ := (ownF_int.1 HQd.out.acc.1).look (i := y) rfl (by omega)
      go_wp2_with fail
      have HQ6 := Lib.hid (HQd.out.store rfl y (ro : Int))
      have HL6 : Hid ((ps.set y (ro : Int)).length = ps.length) := List.length_set
      have HE6 : Hid (el (ps.set y (ro : Int)) y = (ro : Int)) := by unfold Hid el; rw [List.getD_eq_getElem?_getD, List.getElem?_set_self (by omega)]; rfl
      generalize V.setCell ⟨gg, y, none⟩ (.int .i64 (ro : Int)) = V6 at *
      clear fr HQd
      obtain ⟨e6, fr6⟩ := (ownF_int.1 HQ6.out.acc.1).look (i := y) HL6.out (by omega)
      rw [HE6.out] at e6
      have m8 := cell_of_one HQ6.out.c8
      have xc0 : V6.cell? ⟨w.heap.size + 1, 0, none⟩ = some (.int .i64 (x : Int)) := by rw [blk_cell HQ6.out.cc]; rfl
      have xc1 : V6.cell? ⟨w.heap.size + 1, 1, none⟩ = some (.int .i64 (y : Int)) := by rw [blk_cell HQ6.out.cc]; rfl
      have hsb1 := HSB1.out; have hsb2 := HSB2.out; have hsb3 := HSB3.out
      go_still_tail 15, (by kernel_rfl)
      change wpList _ _ _ _ _ V6.drew
      have HQ7 := Lib.hid (HQ6.out.below (Below.refl V6.heap.size V6).drew)
      clear m8 e6 fr6 xc0 xc1 HQ6
      generalize V6.drew = V7 at *
      obtain ⟨_, fr7⟩ := (ownF_int.1 HQ7.out.acc.1).look (i := y) HL6.out (by omega)
      have HQ8 := Lib.hid (HQ7.out.store HL6.out y ((ro - q2 : Nat) : Int))
      obtain ⟨V8, HV8⟩ : ∃ V8, Hid (V8 = V7.setCell ⟨gg, y, none⟩ (.int .i64 ((ro - q2 : Nat) : Int))) := ⟨_, rfl⟩
      rw [← HV8.out] at HQ8
      have m8 := cell_of_one HQ8.out.c8
      have m6 := cell_of_one HQ8.out.c6
      have f6 := free_of_one HQ8.out.c6
      rw [HV8.out] at m8 m6 f6
      go_wp2_with fail
      rw [← HV8.out]
      have k9 : (V8.setCell ⟨w.heap.size + 1 + 1, 0, none⟩ (.slice (some ⟨gg, 0, none⟩) ps.length cgg)).heap[w.heap.size + 1 + 1]? = some (.cells #[.slice (some ⟨gg, 0, none⟩) ps.length cgg] 39 (0, 0)) := (blk_setCell HQ8.out.c6 _).trans (by simp)
      have r0 : (V8.setCell ⟨w.heap.size + 1 + 1, 0, none⟩ (.slice (some ⟨gg, 0, none⟩) ps.length cgg)).cell? ⟨w.heap.size + 1 + 1, 0, none⟩ = some (.slice (some ⟨gg, 0, none⟩) ps.length cgg) := cell_of_one k9
      have HN := Lib.hid ((ownF_int.1 HQ8.out.acc.1).setCell (p := ⟨w.heap.size + 1 + 1, 0, none⟩) (by have := HWS.out; show w.heap.size + 1 + 1 < _; omega) (.slice (some ⟨gg, 0, none⟩) ps.length cgg))
      have HBN := Lib.hid (HQ8.out.acc.2.1.setCell (p := ⟨w.heap.size + 1 + 1, 0, none⟩) (by show w.heap.size ≤ w.heap.size + 1 + 1; omega) (.slice (some ⟨gg, 0, none⟩) ps.length cgg))
      clear k9 m8 m6 f6
      refine bodyPost_ret (v := .tuple #[.agg #[.slice (some ⟨gg, 0, none⟩) ps.length cgg], .bool true]) (by simp [results, Try.results164, go_sem, r0]) rfl ⟨_, rfl, ?_, HBN.out⟩
      rw [HPS.out]
      exact HN.out.mono (by have := HWS.out; omega)
end Go.Proofs.Ytehnbalbpfmijaa
