/- What the claim's walk rests on: parts LkIx, Cells, Uncov, Lst. -/
import Derived.Test.YtehnbalbpfmijaaDoorKa8
import Derived.Test.YtehnbalbpfmijaaDoorKa1
import Derived.Test.YtehnbalbpfmijaaDoorKa2
import Derived.Test.YtehnbalbpfmijaaDoorKa6
import Derived.Test.YtehnbalbpfmijaaDoorKa3
import Derived.Deep.RegionHeld3
import Derived.Deep.RegionLaw
import Derived.StillTailTactics
import Derived.Laws.EntriesVeiled
import Derived.Deep.Cut
namespace Go.Proofs.YtehnbalbpfmijaaDoor
open Go.RowKit
set_option linter.unusedVariables false

/-- The first number from k on, among n, with p; -1 if there is none. -/
def fstZ (p : Nat → Bool) : Nat → Nat → Int
  | 0, _ => -1
  | n + 1, k => if p k then (k : Int) else fstZ p n (k + 1)
theorem fstZ_spec (p : Nat → Bool) : ∀ n k, (fstZ p n k = -1 ∧ ∀ i, k ≤ i → i < k + n → p i = false) ∨ ∃ j : Nat, fstZ p n k = (j : Int) ∧ k ≤ j ∧ j < k + n ∧ p j = true ∧ ∀ i, k ≤ i → i < j → p i = false
  | 0, k => .inl ⟨rfl, fun i h1 h2 => by omega⟩
  | n + 1, k => by
    rw [fstZ]
    by_cases h : p k = true
    · rw [if_pos h]; exact .inr ⟨k, rfl, Nat.le_refl _, by omega, h, fun i h1 h2 => by omega⟩
    · rw [if_neg h]
      have hf : p k = false := by simpa using h
      rcases fstZ_spec p n (k + 1) with ⟨h1, h2⟩ | ⟨j, h1, h2, h3, h4, h5⟩
      · refine .inl ⟨h1, fun i q1 q2 => ?_⟩
        by_cases e : i = k
        · rw [e]; exact hf
        · exact h2 i (by omega) (by omega)
      · refine .inr ⟨j, h1, by omega, by omega, h4, fun i q1 q2 => ?_⟩
        by_cases e : i = k
        · rw [e]; exact hf
        · exact h5 i (by omega) q2
def lkEq (ls : List Lk) (x y : Int) (d : Bool) (i : Nat) : Bool := lx ls i == x && (ly ls i == y && ld ls i == d)
end Go.Proofs.YtehnbalbpfmijaaDoor

namespace Go.Proofs.YtehnbalbpfmijaaDoor
open Go.RowKit
set_option linter.unusedVariables false

/-- The set of a list of cells. -/
def sofTo (ls : List (Int × Int)) : Nat → Nat
  | 0 => 0
  | k + 1 => sofTo ls k ||| 2 ^ cix (dx ls k).toNat (dy ls k).toNat
end Go.Proofs.YtehnbalbpfmijaaDoor

namespace Go.Proofs.YtehnbalbpfmijaaDoor
open Go.RowKit
set_option linter.unusedVariables false

def cEq (ls : List (Int × Int)) (x y : Int) (i : Nat) : Bool := dx ls i == x && dy ls i == y
def hasCL (ls : List (Int × Int)) (x y : Int) : Bool := decide (0 ≤ fstZ (cEq ls x y) ls.length 0)
theorem eql_cell (a b x y : Int) (W : World) : Sem.run Tryd.prog (binOp .eql 41 (.agg #[.int .i64 a, .int .i64 b]) (.agg #[.int .i64 x, .int .i64 y])) W = .ok (.bool (a == x && b == y)) W := by
  by_cases h1 : a = x
  · by_cases h2 : b = y
    · subst h1; subst h2
      rw [show (a == a && b == b) = true by simp]
      go_simp
    · rw [show (a == x && b == y) = false by simp [h2]]
      go_simp
  · rw [show (a == x && b == y) = false by simp [h1]]
    go_simp

/-- A domino lies over a cell. -/
def domAt (ls : List Lk) (x y : Int) (i : Nat) : Bool := domB (lx ls i) (ly ls i) (ld ls i) && ((lx ls i == x && ly ls i == y) || (sndX (lx ls i) (ld ls i) == x && sndY (ly ls i) (ld ls i) == y))
set_option maxRecDepth 100000 in
set_option maxHeartbeats 2000000 in
theorem specDominoAt_any (v : Value) (ls : List Lk) (x y : Int) (B : Nat) (w : World) (h : RdF elDomino w B v ls) (hB : B ≤ w.heap.size) :
    Calls Tryd.prog 37 #[v, spotV x y] w fun e w' => e = .returned (.int .i64 (fstZ (domAt ls x y) ls.length 0)) ∧ Below w.heap.size w w' := by
  obtain ⟨A, c, rfl, g1, g2, G3⟩ := RdT.of (E := elDomino) rfl (fun _ => rfl) h
  unfold maxLen at g2
  clear h
  go_enter Tryd.func37, Tryd.ntmps37
  go_wp2_with fail
  obtain ⟨W, hW, k0, hb0⟩ := one_alloc w (.cells #[.int .i64 x, .int .i64 y] 41)
  rw [← hW]
  have HK := Lib.hid k0
  have HB0 := Lib.hid hb0
  have hs0 : w.heap.size < W.heap.size := lt_of_block k0
  clear hW k0 hb0
  go_loopw [5] (fun s wr => ∃ k : Nat, k ≤ ls.length ∧ s = .int .i64 k ∧ Hid (Below W.heap.size W wr) ∧ Hid (fstZ (domAt ls x y) ls.length 0 = fstZ (domAt ls x y) (ls.length - k) k)) (fun s _ => ls.length - (intOf s).toNat)
  case atStart => exact ⟨0, Nat.zero_le _, rfl, Below.refl _ _, rfl⟩
  case round =>
    obtain ⟨k, hk, rfl, HB, HF⟩ := hrel
    by_cases hlt : k < ls.length
    · obtain ⟨ad, rfl, had, hx, hy, hz⟩ := G3.out k hlt
      have had2 : (ad.add (k * 3)).block < w.heap.size := by rw [addBlock]; omega
      have hbw := HB0.out.trans (HB.out.mono HB0.out.size)
      have hx' := (hbw.cell (p := ad.add (k * 3)) had2).trans hx
      have hy' := (hbw.cell (p := ⟨(ad.add (k * 3)).block, (ad.add (k * 3)).off + 1, none⟩) had2).trans hy
      have hz' := (hbw.cell (p := ⟨(ad.add (k * 3)).block, (ad.add (k * 3)).off + 2, none⟩) had2).trans hz
      have ht : decide ((k : Int) < (ls.length : Int)) = true := by simp only [decide_eq_true_eq]; omega
      have hk0 : (0 : Int) ≤ (k : Int) := by omega
      have hk1 : (k : Int) < (ls.length : Int) := by omega
      have HW := Lib.hid hbw
      have HAD := Lib.hid had2
      have HS : Hid (fstZ (domAt ls x y) (ls.length - k) k = if domAt ls x y k then (k : Int) else fstZ (domAt ls x y) (ls.length - (k + 1)) (k + 1)) := by
        unfold Hid; rw [show ls.length - k = (ls.length - (k + 1)) + 1 by omega, fstZ]
      have HE : Hid (domAt ls x y k = (domB (lx ls k) (ly ls k) (ld ls k) && ((lx ls k == x && ly ls k == y) || (sndX (lx ls k) (ld ls k) == x && sndY (ly ls k) (ld ls k) == y)))) := rfl
      have HCU := Lib.hid (fun V h => CellsUnder_yes (lx ls k) (ly ls k) (ld ls k) V h)
      have HDX : Hid (Three w (ad.add (k * 3)) (lx ls k) (ly ls k) (ld ls k)) := ⟨hx, hy, hz⟩
      generalize domAt ls x y k = r at *
      generalize sndX (lx ls k) (ld ls k) = x2 at *
      generalize sndY (ly ls k) (ld ls k) = y2 at *
      generalize lx ls k = p1 at *
      generalize ly ls k = p2 at *
      generalize ld ls k = p3 at *
      clear hx hy hz hbw had2
      go_wp2_with fail
      refine (specDominoOk_any p1 p2 p3 _).mono ?_
      rintro e w3 ⟨rfl, hb3⟩
      have HB3 := Lib.hid (HB.out.trans (hb3.mono HB.out.size))
      have hbw3 := HW.out.trans (hb3.mono HW.out.size)
      have hx3 := (hbw3.cell (p := ad.add (k * 3)) HAD.out).trans HDX.out.1
      have hy3 := (hbw3.cell (p := ⟨(ad.add (k * 3)).block, (ad.add (k * 3)).off + 1, none⟩) HAD.out).trans HDX.out.2.1
      have hz3 := (hbw3.cell (p := ⟨(ad.add (k * 3)).block, (ad.add (k * 3)).off + 2, none⟩) HAD.out).trans HDX.out.2.2
      clear hb3 hbw3 hx' hy' hz'
      cases hd : domB p1 p2 p3
      · rw [hd, Bool.false_and] at HE
        have HS2 : Hid (fstZ (domAt ls x y) ls.length 0 = fstZ (domAt ls x y) (ls.length - (k + 1)) (k + 1)) := by unfold Hid; rw [HF.out, HS.out, HE.out]; rfl
        clear HS HF HE hd
        go_wp2_with fail
        go_roundw
        case rel => exact ⟨k + 1, by omega, by go_num, HB3, HS2⟩
        case measure => simp [intOf]; omega
      · rw [hd, Bool.true_and] at HE
        have HCU := Lib.hid (fun V => HCU.out V hd)
        clear hd
        go_wp2_with fail
        refine (HCU.out _).mono ?_
        rintro e w4 ⟨rfl, hb4⟩
        have HB4 := Lib.hid (HB3.out.trans (hb4.mono HB3.out.size))
        clear hb4 hx3 hy3 hz3
        go_upto_region 6 with (fail)
        obtain ⟨V, hV, k1, k2, hbV⟩ := two_alloc w4 (.cells #[.int .i64 p1, .int .i64 p2] 41) (.cells #[.int .i64 x2, .int .i64 y2] 41)
        rw [← hV]
        have HBV := Lib.hid (HB4.out.trans (hbV.mono HB4.out.size))
        have hblk := (HBV.out.block w.heap.size hs0).trans HK.out
        have b0 : V.cell? ⟨w.heap.size, 0, none⟩ = some (.int .i64 x) := by rw [blk_cell hblk]; rfl
        have b1 : V.cell? ⟨w.heap.size, 1, none⟩ = some (.int .i64 y) := by rw [blk_cell hblk]; rfl
        have c0 : V.cell? ⟨w4.heap.size, 0, none⟩ = some (.int .i64 p1) := by rw [blk_cell k1]; rfl
        have c1 : V.cell? ⟨w4.heap.size, 1, none⟩ = some (.int .i64 p2) := by rw [blk_cell k1]; rfl
        have c2 : V.cell? ⟨w4.heap.size + 1, 0, none⟩ = some (.int .i64 x2) := by rw [blk_cell k2]; rfl
        have c3 : V.cell? ⟨w4.heap.size + 1, 1, none⟩ = some (.int .i64 y2) := by rw [blk_cell k2]; rfl
        have h1 := eql_cell p1 p2 x y
        have h2 := eql_cell x2 y2 x y
        clear hV k1 k2 hbV hblk
        cases e1 : (p1 == x && p2 == y)
        · rw [e1] at h1 HE
          rw [Bool.false_or] at HE
          rw [← HE.out] at h2
          clear e1 HE
          cases r
          · have HS2 : Hid (fstZ (domAt ls x y) ls.length 0 = fstZ (domAt ls x y) (ls.length - (k + 1)) (k + 1)) := by unfold Hid; rw [HF.out, HS.out]; rfl
            go_wp2_with fail
            go_roundw
            case rel => exact ⟨k + 1, by omega, by go_num, HBV, HS2⟩
            case measure => simp [intOf]; omega
          · have HS2 : Hid (fstZ (domAt ls x y) ls.length 0 = (k : Int)) := by unfold Hid; rw [HF.out, HS.out]; rfl
            go_wp2_with fail
            go_ret
            exact ⟨ret_int HS2.out.symm, HB0.out.trans (HBV.out.mono HB0.out.size)⟩
        · rw [e1] at h1 HE
          rw [Bool.true_or] at HE
          have HS2 : Hid (fstZ (domAt ls x y) ls.length 0 = (k : Int)) := by unfold Hid; rw [HF.out, HS.out, HE.out]; rfl
          clear e1 HE h2
          go_wp2_with fail
          go_ret
          exact ⟨ret_int HS2.out.symm, HB0.out.trans (HBV.out.mono HB0.out.size)⟩
    · have HF2 : Hid (fstZ (domAt ls x y) ls.length 0 = -1) := by unfold Hid; rw [HF.out, show ls.length - k = 0 by omega]; rfl
      have ht : decide ((k : Int) < (ls.length : Int)) = false := by simp only [decide_eq_false_iff_not]; omega
      go_wp2_with fail
      go_ret
      exact ⟨ret_int HF2.out.symm, HB0.out.trans (HB.out.mono HB0.out.size)⟩
end Go.Proofs.YtehnbalbpfmijaaDoor

namespace Go.Proofs.YtehnbalbpfmijaaDoor
open Go.RowKit
set_option linter.unusedVariables false

/-- Two values in blocks of their own. -/
def Sep (u v : Value) : Prop := ∀ k, u.ownBlock = some k → v.ownBlock = some k → False
theorem Sep.symm {u v : Value} (h : Sep u v) : Sep v u := fun k h1 h2 => h k h2 h1
theorem Sep.push {α : Type} {E' : El α} {wr w' : World} {lo : Nat} {u u' v : Value} {ys : List α} (hD : Sep u v) (hB : OwnF E' wr lo v ys) (G : Grew wr w' u u') : OwnF E' w' lo v ys ∧ Sep u' v := by
  obtain ⟨hg, g, h1, h2, h3⟩ := G
  refine ⟨hB.kept hg fun k hk e => hD k e.symm hk, fun k hk hv => ?_⟩
  rw [h1] at hk
  simp only [Option.some.injEq] at hk
  subst hk
  rcases h2 with h2 | h2
  · exact hD g h2 hv
  · have := hB.lt g hv; omega
theorem Sep.pushS {α : Type} {E' : El α} {wr w' : World} {lo : Nat} {u u' v : Value} {ys : List α} (hD : Sep u v) (hB : OwnF E' wr lo v ys) (G : GrewS wr w' u u') : OwnF E' w' lo v ys ∧ Sep u' v := by
  obtain ⟨hg, h2⟩ := G
  refine ⟨hB.kept hg fun k hk e => hD k e.symm hk, fun k hk hv => ?_⟩
  rcases h2 with h2 | h2
  · rw [h2] at hk; exact hD k hk hv
  · rw [h2] at hk
    simp only [Option.some.injEq] at hk
    have := hB.lt k hv; omega
theorem Sep.fresh {α : Type} {E : El α} {w : World} {lo g n c : Nat} {u : Value} {ys : List α} (h : OwnF E w lo u ys) (hg : w.heap.size ≤ g) : Sep (.slice (some ⟨g, 0, none⟩) n c) u := fun k hk hv => by
  simp only [Value.ownBlock, Option.some.injEq] at hk
  have := (h.lt k hv).2; omega
theorem Sep.newer {α : Type} {E : El α} {w : World} {lo g n c : Nat} {u : Value} {ys : List α} (h : OwnF E w lo u ys) (hg : g < lo) : Sep (.slice (some ⟨g, 0, none⟩) n c) u := fun k hk hv => by
  simp only [Value.ownBlock, Option.some.injEq] at hk
  have := (h.lt k hv).1; omega

/-- The cells of a list that no domino lies over. -/
def uncB (ls : List Lk) (x y : Int) : Bool := decide (fstZ (domAt ls x y) ls.length 0 < 0)
def uncTo (ls : List Lk) (cs : List (Int × Int)) : Nat → List (Int × Int)
  | 0 => []
  | k + 1 => if uncB ls (dx cs k) (dy cs k) then uncTo ls cs k ++ [(dx cs k, dy cs k)] else uncTo ls cs k
theorem uncTo_len (ls : List Lk) (cs : List (Int × Int)) : ∀ k, (uncTo ls cs k).length ≤ k
  | 0 => Nat.le_refl _
  | k + 1 => by have := uncTo_len ls cs k; rw [uncTo]; split <;> simp <;> omega
def uncZ (R : Nat) (ls : List Lk) : List (Int × Int) := uncTo ls (cellsTo R 64) (cellsTo R 64).length

set_option maxRecDepth 100000 in
set_option maxHeartbeats 4000000 in
theorem specUncovered_any (v u : Value) (zs : List Int) (ls : List Lk) (B : Nat) (w : World) (hr : RdI w B v zs) (h : RdF elDomino w B u ls) (hB : B ≤ w.heap.size) (hok : regOkB zs = true) :
    Calls Tryd.prog 33 #[.agg #[v], u] w fun e w' => ∃ x, e = .returned x ∧ OwnF elCell w' w.heap.size x (uncZ (setZ zs) ls) ∧ Below w.heap.size w w' := by
  have HU := Lib.hid hr
  have HV := Lib.hid h
  have hcl : (cellsTo (setZ zs) 64).length ≤ 64 := by rw [cellsTo_len]; exact cntB_le _ _
  have HCO := Lib.hid (fun V (hb : Below w.heap.size w V) => CellsOf_list v zs B V (HU.out.below (hb.mono hB)) (Nat.le_trans hB hb.size) hok)
  have HZ : Hid (uncZ (setZ zs) ls = uncTo ls (cellsTo (setZ zs) 64) (cellsTo (setZ zs) 64).length) := rfl
  rw [HZ.out]
  generalize cellsTo (setZ zs) 64 = cs at *
  have HST : Hid (∀ k, uncTo ls cs (k + 1) = if uncB ls (dx cs k) (dy cs k) then uncTo ls cs k ++ [(dx cs k, dy cs k)] else uncTo ls cs k) := fun k => rfl
  have HSL := Lib.hid (uncTo_len ls cs)
  have HS0 : Hid (uncTo ls cs 0 = []) := rfl
  obtain ⟨st, HE⟩ : ∃ st, Hid (st = uncTo ls cs) := ⟨_, rfl⟩
  rw [← HE.out] at HST HSL HS0 ⊢
  clear HE HZ h
  obtain ⟨A, c, rfl, h1, h2, hR⟩ := hr
  unfold maxLen at h2
  obtain ⟨W, hW, k1, hb⟩ := one_alloc w (.cells #[.slice A zs.length c] 28)
  have c0 : (W.alloc (.cells #[] 41)).cell? ⟨w.heap.size, 0, none⟩ = some (.slice A zs.length c) := by
    rw [blk_cell (((Below.refl W.heap.size W).alloc (Nat.le_refl _) _).block _ (lt_of_block k1) |>.trans k1)]; rfl
  have HB := Lib.hid hb
  have HW := Lib.hid hW
  have hBW : B ≤ W.heap.size := Nat.le_trans hB hb.size
  have HA0 : Hid (Acc elCell w w.heap.size (W.alloc (.cells #[] 41)) (.slice (some ⟨W.heap.size, 0, none⟩) 0 0) []) := Acc.startAt hb (Nat.le_refl _) hb.size
  have HG0 : Hid (W.heap.size < (W.alloc (.cells #[] 41)).heap.size) := by unfold Hid; simp
  clear hW k1 hb hR hok
  go_enter Tryd.func33, Tryd.ntmps33
  go_upto_region 1 with (fail)
  rw [← HW.out]
  go_upto_region 2 with (fail)
  generalize W.alloc (.cells #[] 41) = W1 at *
  go_wp2_with fail
  refine (HCO.out _ HA0.out.2.1).mono ?_
  rintro e w2 ⟨u1, rfl, ho, hb2⟩
  have HA2 := Lib.hid (HA0.out.below hb2)
  have HS2 := Lib.hid (Sep.newer (n := 0) (c := 0) ho HG0.out)
  have HO2 := Lib.hid (ho.mono HA0.out.2.1.size)
  obtain ⟨A2, c2, rfl, q1, q2, _⟩ := RdD.of (E := elCell) rfl (fun _ => rfl) (ho.rd okCell)
  unfold maxLen at q2
  clear c0 hb2 ho
  go_wp2_with fail
  go_loopw [5, 7] (fun o i wr => ∃ (k : Nat) (x : Value), k ≤ cs.length ∧ i = .int .i64 (k : Int) ∧ x = o ∧ Hid (Acc elCell w w.heap.size wr x (st k)) ∧ Hid (OwnF elCell wr w.heap.size (.slice A2 cs.length c2) cs) ∧ Hid (Sep x (.slice A2 cs.length c2))) (fun _ i _ => cs.length - (intOf i).toNat)
  case atStart => exact ⟨0, _, Nat.zero_le _, rfl, rfl, by rw [HS0.out]; exact HA2, HO2, HS2⟩
  case round =>
    obtain ⟨k, x, hk, rfl, rfl, HA, HO, HS⟩ := hrel
    obtain ⟨A1, ca, hv, q3, q4, _⟩ := HA.out.1.rd okCell
    subst hv
    unfold maxLen at q4
    have hlen := HSL.out k
    by_cases hlt : k < cs.length
    · have ht : decide ((k : Int) < (cs.length : Int)) = true := by simp only [decide_eq_true_eq]; omega
      obtain ⟨A9, c9, he, _, _, G9⟩ := RdD.of (E := elCell) rfl (fun _ => rfl) (HO.out.rd okCell)
      simp only [Value.slice.injEq, true_and] at he
      obtain ⟨rfl, rfl⟩ := he
      obtain ⟨ad, rfl, hbl, hx, hy⟩ := G9.out k hlt
      have HDA := Lib.hid (specDominoAt_any u ls (dx cs k) (dy cs k) B wr (HV.out.below (HA.out.2.1.mono hB)) (Nat.le_trans hB HA.out.2.1.size))
      have HT : Hid (st (k + 1) = if decide (fstZ (domAt ls (dx cs k) (dy cs k)) ls.length 0 < 0) then st k ++ [(dx cs k, dy cs k)] else st k) := HST.out k
      have hk0 : (0 : Int) ≤ (k : Int) := by omega
      have hk1 : (k : Int) < (cs.length : Int) := by omega
      generalize fstZ (domAt ls (dx cs k) (dy cs k)) ls.length 0 = q at *
      generalize dx cs k = x at *
      generalize dy cs k = y at *
      generalize st k = ys at *
      have hbl2 : (ad.add (k * 2)).block < wr.heap.size := by rw [addBlock]; omega
      have HBL := Lib.hid hbl2
      clear hbl hbl2 G9
      go_wp2_with fail
      refine HDA.out.mono ?_
      rintro e w3 ⟨rfl, hb3⟩
      have hx3 := (hb3.cell (p := ad.add (k * 2)) HBL.out).trans hx
      have hy3 := (hb3.cell (p := ⟨(ad.add (k * 2)).block, (ad.add (k * 2)).off + 1, none⟩) HBL.out).trans hy
      have HA3 := Lib.hid (HA.out.below hb3)
      have HO3 := Lib.hid (HO.out.below hb3)
      clear hb3 hx hy
      cases hq : decide (q < 0)
      · rw [hq] at HT
        have HT2 : Hid (st (k + 1) = ys) := HT.out
        clear HT
        go_wp2_with fail
        go_roundw
        case rel => exact ⟨k + 1, _, by omega, by go_num, rfl, by rw [HT2.out]; exact HA3, HO3, HS⟩
        case measure => simp [intOf]; omega
      · rw [hq] at HT
        have HT2 : Hid (st (k + 1) = ys ++ [(x, y)]) := HT.out
        clear HT
        go_wp2_with (at_builtin; refine wpList_push okCell rfl _ _ rfl HA3.out rfl (x, y) _ rfl _ rfl rfl (by omega) ?_; intro v10 w10 HA10 HG10)
        have HP := Lib.hid (HS.out.push HO3.out HG10.out)
        go_roundw
        case rel => exact ⟨k + 1, _, by omega, by go_num, rfl, by rw [HT2.out]; exact HA10, HP.out.1, HP.out.2⟩
        case measure => simp [intOf]; omega
    · obtain rfl : k = cs.length := by omega
      have ht : decide ((cs.length : Int) < (cs.length : Int)) = false := by simp
      go_wp2_with fail
      go_ret
      exact ⟨_, rfl, HA.out.1, HA.out.2.1⟩
end Go.Proofs.YtehnbalbpfmijaaDoor

namespace Go.Proofs.YtehnbalbpfmijaaDoor
open Go.RowKit
set_option linter.unusedVariables false

theorem infoDomRow2 : (Tryd.prog.info? 31).map (fun i => (i.zero, i.size, i.bytes)) = some (some (.slice none 0 0), 1, 24) := by kernel_rfl
abbrev eDL : El Sl := elSl 31 24
theorem okDL : eDL.Ok Tryd.prog := okSl Tryd.underlying24 infoDomRow2

/-- Whether a domino may be laid next. -/
def okN (R : Nat) (hd : List Lk) (l : Lk) : Bool := domL l && (hasB R (sndX l.1 l.2.2).toNat (sndY l.2.1 l.2.2).toNat && uncB hd (sndX l.1 l.2.2) (sndY l.2.1 l.2.2))
/-- What l08List lists, if so many steps are enough. -/
def lstO (R : Nat) : Nat → List Lk → Nat → Option (List (List Lk))
  | 0, _, _ => none
  | f + 1, hd, most =>
    if (uncZ R hd).length = 0 then some [hd]
    else
      let x := dx (uncZ R hd) 0
      let y := dy (uncZ R hd) 0
      match (if decide (0 < most) && okN R hd (x, y, false) then lstO R f (hd ++ [(x, y, false)]) most else some []) with
      | none => none
      | some o1 => if decide (o1.length < most) && okN R hd (x, y, true) then (lstO R f (hd ++ [(x, y, true)]) (most - o1.length)).map (o1 ++ ·) else some o1
theorem lstO_steps {R f : Nat} {hd : List Lk} {most : Nat} {r : List (List Lk)} (h : lstO R (f + 1) hd most = some r) (h0 : (uncZ R hd).length ≠ 0) :
    ∃ xs : Nat → List (List Lk), xs 0 = [] ∧ xs 2 = r ∧ ∀ j, j < 2 → (((xs j).length < most ∧ okN R hd (dx (uncZ R hd) 0, dy (uncZ R hd) 0, decide (j = 1)) = true) ∧ ∃ sub, lstO R f (hd ++ [(dx (uncZ R hd) 0, dy (uncZ R hd) 0, decide (j = 1))]) (most - (xs j).length) = some sub ∧ xs (j + 1) = xs j ++ sub) ∨
      (¬ ((xs j).length < most ∧ okN R hd (dx (uncZ R hd) 0, dy (uncZ R hd) 0, decide (j = 1)) = true) ∧ xs (j + 1) = xs j) := by
  rw [lstO, if_neg h0] at h
  dsimp only at h
  split at h
  · simp at h
  · rename_i o1 ho1
    refine ⟨fun j => if j = 0 then [] else if j = 1 then o1 else r, rfl, rfl, fun j hj => ?_⟩
    rcases (show j = 0 ∨ j = 1 by omega) with rfl | rfl
    · simp only [if_true, Nat.reduceAdd, Nat.one_ne_zero, if_false, List.length_nil, Nat.sub_zero, List.nil_append, show decide ((0 : Nat) = 1) = false from rfl]
      split at ho1
      · rename_i hc
        rw [Bool.and_eq_true, decide_eq_true_eq] at hc
        exact .inl ⟨hc, o1, ho1, rfl⟩
      · rename_i hc
        rw [Bool.and_eq_true, decide_eq_true_eq] at hc
        simp only [Option.some.injEq] at ho1
        exact .inr ⟨hc, ho1.symm⟩
    · simp only [if_true, Nat.reduceAdd, Nat.one_ne_zero, if_false, show (2 : Nat) ≠ 0 from by omega, show (2 : Nat) ≠ 1 from by omega]
      split at h
      · rename_i hc
        rw [Bool.and_eq_true, decide_eq_true_eq] at hc
        obtain ⟨sub, h1, h2⟩ := Option.map_eq_some_iff.1 h
        exact .inl ⟨hc, sub, h1, h2.symm⟩
      · rename_i hc
        rw [Bool.and_eq_true, decide_eq_true_eq] at hc
        simp only [Option.some.injEq] at h
        exact .inr ⟨hc, h.symm⟩
/-- One call of l08List. -/
def LstAt (zs : List Int) (f : Nat) (hd : List Lk) (most : Nat) (r : List (List Lk)) : Prop := ∀ (w : World) (B : Nat) (v vh : Value), RdI w B v zs → RdF elDomino w B vh hd → B ≤ w.heap.size →
  Calls Tryd.prog 16 #[.agg #[v], vh, .int .i64 (most : Int)] w (RetN (kdF elDomino) eDL w r)
theorem rdF_1 {α : Type} {E : El α} {w : World} {h : Nat} {cs : Array Value} {t : TypeId} {y : α} (hE : (E.f y).length = E.s) (hb : w.heap[h]? = some (.cells cs t (0, 0))) (hc : cs.toList = E.f y) : RdF E w w.heap.size (.slice (some ⟨h, 0, none⟩) 1 1) [y] := by
  refine ⟨_, _, rfl, Nat.le_refl _, by unfold maxLen; omega, fun j x hx => ?_⟩
  have hj : j = 0 := by have := (List.getElem?_eq_some_iff.1 hx).1; simp at this; exact this
  subst hj
  simp only [List.getElem?_cons_zero, Option.some.injEq] at hx
  subst hx
  refine ⟨_, rfl, lt_of_block hb, fun i u hu => ?_⟩
  rw [Nat.zero_mul, Nat.zero_add]
  exact World.news_of_block hb i u (by rw [hc]; exact hu)
theorem NRel.bigD {α : Type} {K : Kd α} {E : El Sl} {w wr : World} {base lo hi : Nat} {v : Value} {xs : List α} (h : NRel K E w base lo wr hi v xs) : Below w.heap.size w wr := h.choose_spec.1.2.1
theorem unc_some {R : Nat} {hd : List Lk} : (uncZ R hd).length ≤ 64 := by
  unfold uncZ
  refine Nat.le_trans (uncTo_len _ _ _) ?_
  rw [cellsTo_len]; exact cntB_le _ _

set_option maxRecDepth 100000 in
set_option maxHeartbeats 4000000 in
theorem lst_end (zs : List Int) (hok : regOkB zs = true) (f : Nat) (hd : List Lk) (most : Nat) (hh : hd.length ≤ 1000) (h0 : (uncZ (setZ zs) hd).length = 0) : LstAt zs (f + 1) hd most [hd] := by
  intro w B v vh hv hvh hB
  have HUN := Lib.hid (fun V (hb : Below w.heap.size w V) => specUncovered_any v vh zs hd B V (hv.below (hb.mono hB)) (hvh.below (hb.mono hB)) (Nat.le_trans hB hb.size) hok)
  have HU0 := Lib.hid h0
  obtain ⟨Ah, ch, rfl, p1, p2, _⟩ := id hvh
  obtain ⟨Ar, cr, rfl, p3, p4, _⟩ := id hv
  unfold maxLen at p2 p4
  have HVH := Lib.hid hvh
  obtain ⟨W, hW, k0, k1, hb0⟩ := two_alloc w (.cells #[.slice Ar zs.length cr] 28) (.cells #[] 31)
  have c0 : W.cell? ⟨w.heap.size, 0, none⟩ = some (.slice Ar zs.length cr) := by rw [blk_cell k0]; rfl
  have HB0 := Lib.hid hb0
  have HK1 : Hid (Acc eDL w w.heap.size W (.slice (some ⟨w.heap.size + 1, 0, none⟩) 0 0) []) := ⟨⟨by simp, .inr ⟨_, 0, #[], rfl, Nat.le_succ _, k1, Nat.le_refl _, by simp [maxLen], by simp, by simp⟩⟩, hb0, Nat.le_refl _, hb0.size⟩
  have HSZ : Hid (W.heap.size = w.heap.size + 2) := by rw [hW]; unfold Hid; simp
  have HWW := Lib.hid hW
  clear hv hvh k0 k1 hb0 hW h0
  go_enter Tryd.func16, Tryd.ntmps16
  go_upto_region 2 with (fail)
  rw [← HWW.out]
  go_wp2_with fail
  refine (HUN.out W HB0.out).mono ?_
  rintro e w1 ⟨u1, rfl, ho1, hb1⟩
  obtain ⟨A1, c1, hu1, q1, q2, _⟩ := ho1.rd okCell
  rw [HU0.out] at hu1 q1
  unfold maxLen at q2
  subst hu1
  have HB1 := Lib.hid (HB0.out.trans (hb1.mono HB0.out.size))
  have HO1 := Lib.hid (HK1.out.below hb1)
  have HRH := Lib.hid (fun V (hb : Below w.heap.size w V) => HVH.out.below (hb.mono hB))
  have HACC : Hid (Acc elDomino w1 w1.heap.size (w1.alloc (.cells #[] 39)) (.slice (some ⟨w1.heap.size, 0, none⟩) 0 0) []) := Acc.start w1
  have HBA : Hid (Below w.heap.size w (w1.alloc (.cells #[] 39))) := HB1.out.alloc HB1.out.size _
  have HOA : Hid (Acc eDL w w.heap.size (w1.alloc (.cells #[] 39)) (.slice (some ⟨w.heap.size + 1, 0, none⟩) 0 0) []) := HO1.out.below ((Below.refl _ _).alloc (Nat.le_refl _) _)
  have HS1 : Hid (w.heap.size + 2 ≤ w1.heap.size) := by unfold Hid; rw [← HSZ.out]; exact hb1.size
  clear hb1 c0 ho1
  go_wp2_with (first
    | (at_builtin; refine wpList_pushSrcF okDomino rfl _ _ rfl HACC.out rfl hd _ _ (HRH.out _ HBA.out) rfl (by simp; omega) ?_; intro u2 w2 HA2 HG2; rw [List.nil_append] at HA2; obtain ⟨A2, k2, hu2, _⟩ := HA2.out.1.rd okDomino; subst hu2; have HAO2 : Hid (Acc eDL w w.heap.size w2 (.slice (some ⟨w.heap.size + 1, 0, none⟩) 0 0) []) := ⟨HOA.out.1.kept HG2.out.1 (fun k h1 h2 => by simp only [Value.ownBlock, Option.some.injEq] at h1 h2; have := HS1.out; omega), HB1.out.trans (HA2.out.2.1.mono HB1.out.size), Nat.le_refl _, Nat.le_trans HB1.out.size HA2.out.2.1.size⟩)
    | (at_builtin; refine wpList_push okDL rfl _ _ rfl HAO2.out rfl (A2, hd.length, k2) _ rfl _ rfl rfl (by simp) ?_; intro v3 w3 HA3 HG3; obtain ⟨A3, k3, hv3, _⟩ := HA3.out.1.rd okDL; rw [show (([] : List Sl) ++ [((A2, hd.length, k2) : Sl)]).length = 1 by simp] at hv3; subst hv3))
  go_ret
  refine ⟨_, w3.heap.size, rfl, ?_⟩
  have hs2 := HA2.out.2.2.2
  have hs1 := HS1.out
  have := NRel.push (K := kdF elDomino) (E := eDL) (w := w) (wr := w2) (base := w.heap.size) (lo := w.heap.size) (hi := w1.heap.size) (a := w1.heap.size) (b := w2.heap.size) (ss := []) (xs := []) (s := (A2, hd.length, k2)) (x := hd) (Els.nil _ _ _ _) hs2 ⟨HA2.out.1, fun g hg => (HA2.out.1.lt g hg).2⟩ (by omega) (Nat.le_refl _) (Nat.le_refl _) (fun g hg => by simp only [Value.ownBlock, Option.some.injEq] at hg; omega) HA3 HG3
  exact this

/-- What the last region reads. -/
abbrev LsS (w' : World) (a b : Nat) (u : Value) (x y : Int) (d : Bool) : Prop := w'.cell? ⟨a, 0, none⟩ = some u ∧ w'.cell? ⟨b, 0, none⟩ = some (.int .i64 x) ∧ w'.cell? ⟨b, 1, none⟩ = some (.int .i64 y) ∧ w'.cell? ⟨b, 2, none⟩ = some (.bool d)
theorem LsS.at {w' : World} {a b : Nat} {u : Value} {x y : Int} {d : Bool} {t t' : TypeId} (ha : w'.heap[a]? = some (.cells #[u] t (0, 0))) (hb : w'.heap[b]? = some (.cells #[.int .i64 x, .int .i64 y, .bool d] t' (0, 0))) : LsS w' a b u x y d :=
  ⟨by rw [blk_cell ha]; rfl, by rw [blk_cell hb]; rfl, by rw [blk_cell hb]; rfl, by rw [blk_cell hb]; rfl⟩
theorem LsS.of {w0 w' : World} {a b : Nat} {u : Value} {x y : Int} {d : Bool} {t t' : TypeId} (ha : w0.heap[a]? = some (.cells #[u] t (0, 0))) (hb : w0.heap[b]? = some (.cells #[.int .i64 x, .int .i64 y, .bool d] t' (0, 0))) (h : Below w0.heap.size w0 w') : LsS w' a b u x y d :=
  LsS.at (blk_below ha h) (blk_below hb h)
/-- A list that grows beside what was there: only its first block may have changed. -/
structure FrO (w1 wr : World) (g0 : Nat) (u : Value) : Prop where
  s : w1.heap.size ≤ wr.heap.size
  k : ∀ k, k < w1.heap.size → k ≠ g0 → wr.heap[k]? = w1.heap[k]?
  o : ∀ g, u.ownBlock = some g → g = g0 ∨ w1.heap.size ≤ g
theorem FrO.below {w1 wr w' : World} {g0 : Nat} {u : Value} (h : FrO w1 wr g0 u) (hb : Below wr.heap.size wr w') : FrO w1 w' g0 u :=
  ⟨Nat.le_trans h.s hb.size, fun k k1 k2 => (hb.block k (by have := h.s; omega)).trans (h.k k k1 k2), h.o⟩
theorem FrO.grew {w1 wr w' : World} {g0 : Nat} {u u' : Value} (h : FrO w1 wr g0 u) (G : GrewS wr w' u u') : FrO w1 w' g0 u' := by
  obtain ⟨g1, g2⟩ := G
  refine ⟨Nat.le_trans h.s g1.size, fun k k1 k2 => (g1.block k (by have := h.s; omega) fun e => ?_).trans (h.k k k1 k2), fun g hg => ?_⟩
  · rcases h.o k e.symm with e | e <;> omega
  · rcases g2 with g2 | g2
    · rw [g2] at hg; exact h.o g hg
    · rw [g2] at hg
      simp only [Option.some.injEq] at hg
      have := h.s; omega
theorem snd_nat {x y : Int} {d : Bool} (h : domB x y d = true) : ∃ p q : Nat, sndX x d = (p : Int) ∧ sndY y d = (q : Int) ∧ p ≤ 7 ∧ q ≤ 7 := by
  unfold domB at h
  rw [Bool.and_eq_true, spotB_iff, spotB_iff] at h
  obtain ⟨p, hp⟩ := Int.eq_ofNat_of_zero_le h.2.1.1
  obtain ⟨q, hq⟩ := Int.eq_ofNat_of_zero_le h.2.2.1
  exact ⟨p, q, hp, hq, by omega, by omega⟩

set_option maxRecDepth 100000 in
set_option maxHeartbeats 8000000 in
theorem lst_step (zs : List Int) (hok : regOkB zs = true) (f : Nat) (hd : List Lk) (most : Nat) (r : List (List Lk)) (hh : hd.length ≤ 1000) (hm : most ≤ 100000) (hr : r.length ≤ 100000) (h0 : (uncZ (setZ zs) hd).length ≠ 0) (hO : lstO (setZ zs) (f + 1) hd most = some r)
    (IH : ∀ l m sub, lstO (setZ zs) f (hd ++ [l]) m = some sub → m ≤ most → sub.length ≤ 100000 → LstAt zs f (hd ++ [l]) m sub) : LstAt zs (f + 1) hd most r := by
  intro w B v vh hv hvh hB
  have HUN := Lib.hid (fun V (hb : Below w.heap.size w V) => specUncovered_any v vh zs hd B V (hv.below (hb.mono hB)) (hvh.below (hb.mono hB)) (Nat.le_trans hB hb.size) hok)
  have HHC := Lib.hid (fun V (hb : Below w.heap.size w V) x y hx hy => HasCell_yes v zs B V (hv.below (hb.mono hB)) (Nat.le_trans hB hb.size) hok x y hx hy)
  have HDA := Lib.hid (fun V (hb : Below w.heap.size w V) x y => specDominoAt_any vh hd x y B V (hvh.below (hb.mono hB)) (Nat.le_trans hB hb.size))
  obtain ⟨xs, hx0, hx2, hxs⟩ := lstO_steps hO h0
  have hul := unc_some (R := setZ zs) (hd := hd)
  have HX0 := Lib.hid hx0; have HX2 := Lib.hid hx2; have HXS := Lib.hid hxs
  have HMN : Hid (∀ j, j ≤ 2 → (xs j).length ≤ 100000) := by
    intro j hj
    have h1 : (xs 0).length ≤ (xs 1).length := by rcases hxs 0 (by omega) with ⟨_, sub, _, e⟩ | ⟨_, e⟩ <;> rw [e] <;> simp
    have h2 : (xs 1).length ≤ (xs 2).length := by rcases hxs 1 (by omega) with ⟨_, sub, _, e⟩ | ⟨_, e⟩ <;> rw [e] <;> simp
    rw [hx2] at h2
    rcases (show j = 0 ∨ j = 1 ∨ j = 2 by omega) with rfl | rfl | rfl
    · omega
    · omega
    · rw [hx2]; exact hr
  have HIH := Lib.hid IH
  have HRV := Lib.hid hv; have HRH := Lib.hid hvh
  obtain ⟨Ah, ch, rfl, p1, p2, _⟩ := id hvh
  obtain ⟨Ar, cr, rfl, p3, p4, _⟩ := id hv
  unfold maxLen at p2 p4
  obtain ⟨W, hW, k0, k1, hb0⟩ := two_alloc w (.cells #[.slice Ar zs.length cr] 28) (.cells #[] 31)
  have c0 : W.cell? ⟨w.heap.size, 0, none⟩ = some (.slice Ar zs.length cr) := by rw [blk_cell k0]; rfl
  have HB0 := Lib.hid hb0
  have HK0 := Lib.hid k0
  have HN0 : Hid (NRel (kdF elDomino) eDL w w.heap.size w.heap.size W W.heap.size (.slice (some ⟨w.heap.size + 1, 0, none⟩) 0 0) []) := ⟨[], ⟨⟨by simp, .inr ⟨_, 0, #[], rfl, Nat.le_succ _, k1, Nat.le_refl _, by simp [maxLen], by simp, by simp⟩⟩, hb0, Nat.le_refl _, hb0.size⟩, Els.nil _ _ _ _, Nat.le_refl _⟩
  have HWW := Lib.hid hW
  generalize setZ zs = R at *
  obtain ⟨us, HUS⟩ : ∃ us, Hid (uncZ R hd = us) := ⟨_, rfl⟩
  rw [HUS.out] at hul h0 HUN HXS
  have HU1 : Hid (0 < us.length ∧ us.length ≤ 64) := ⟨by omega, hul⟩
  obtain ⟨x, HX⟩ : ∃ x, Hid (dx us 0 = x) := ⟨_, rfl⟩
  obtain ⟨y, HY⟩ : ∃ y, Hid (dy us 0 = y) := ⟨_, rfl⟩
  rw [HX.out, HY.out] at HXS
  rw [← HX2.out]
  clear hv hvh k0 k1 hb0 hW h0 hO hx0 hx2 hxs hul IH HX2 hr
  go_enter Tryd.func16, Tryd.ntmps16
  go_upto_region 2 with (fail)
  rw [← HWW.out]
  go_wp2_with fail
  refine (HUN.out W HB0.out).mono ?_
  rintro e w1 ⟨u1, rfl, ho1, hb1⟩
  obtain ⟨A1, c1, hu1, q1, q2, G9⟩ := RdD.of (E := elCell) rfl (fun _ => rfl) (ho1.rd okCell)
  subst hu1
  unfold maxLen at q2
  obtain ⟨ad, rfl, hbl, hcx, hcy⟩ := G9.out 0 HU1.out.1
  rw [Nat.zero_mul, Addr.add_zero'] at hcx hcy
  rw [HX.out] at hcx
  rw [HY.out] at hcy
  have hbl2 : ad.block < w1.heap.size := hbl
  have HC : Hid (w1.cell? ad = some (.int .i64 x) ∧ w1.cell? ⟨ad.block, ad.off + 1, none⟩ = some (.int .i64 y) ∧ ad.block < w1.heap.size) := ⟨hcx, hcy, hbl2⟩
  have hu0 : ((us.length : Int) == 0) = false := by rw [beq_eq_false_iff_ne]; have := HU1.out.1; omega
  have hu1 : (0 : Int) < (us.length : Int) := by have := HU1.out.1; omega
  have HAD : Hid (w.heap.size + 2 ≤ ad.block) := by have h := (ho1.lt ad.block rfl).1; have h2 : W.heap.size = w.heap.size + 2 := (by rw [HWW.out]; simp); unfold Hid; omega
  have HB1 := Lib.hid (HB0.out.trans (hb1.mono HB0.out.size))
  have HN1 := Lib.hid (HN0.out.below hb1)
  have HK1 := Lib.hid (blk_below HK0.out hb1)
  have hs1 : w.heap.size < w1.heap.size := lt_of_block HK1.out
  clear hb1 c0 ho1 hcx hcy hbl2 hbl G9 HX HY HUS
  go_wp2_with fail
  go_loopw [7, 9] (fun o s wr => ∃ (j hi : Nat) (u : Value), j ≤ 2 ∧ s = .int .i64 j ∧ u = o ∧ Hid (NRel (kdF elDomino) eDL w w.heap.size w.heap.size wr hi u (xs j)) ∧ Hid (FrO w1 wr (w.heap.size + 1) u)) (fun _ s _ => 2 - (intOf s).toNat)
  case atStart => exact ⟨0, _, _, by omega, rfl, rfl, by rw [HX0.out]; exact HN1, ⟨Nat.le_refl _, fun _ _ _ => rfl, fun g hg => .inl (by simp only [Value.ownBlock, Option.some.injEq] at hg; exact hg.symm)⟩⟩
  case round =>
    obtain ⟨j, hi, u, hj, rfl, rfl, HN, HB⟩ := hrel
    obtain ⟨Ao, co, rfl, r1, r2⟩ := HN.out.len okDL
    unfold maxLen at r2
    by_cases hj2 : j < 2
    · have ht : decide ((j : Int) < 2) = true := by simp only [decide_eq_true_eq]; omega
      have HXJ := Lib.hid (HXS.out j hj2)
      have hlj := HMN.out j hj
      have hlj1 := Lib.hid (HMN.out (j + 1) (by omega))
      by_cases hlm : (xs j).length < most
      · have hlm2 : decide (((xs j).length : Int) < (most : Int)) = true := by simp only [decide_eq_true_eq]; omega
        obtain ⟨hx', hy', hbl'⟩ := HC.out
        have hadn : ad.block ≠ w.heap.size + 1 := by have := HAD.out; omega
        have cx := (World.cell?_of_block (a := ad) (HB.out.k _ hbl' hadn)).trans hx'
        have cy := (World.cell?_of_block (a := ⟨ad.block, ad.off + 1, none⟩) (HB.out.k _ hbl' hadn)).trans hy'
        have HKR := Lib.hid ((HB.out.k _ hs1 (by omega)).trans HK1.out)
        have HOL : Hid (∀ g, Value.ownBlock (.slice Ao (xs j).length co) = some g → g < wr.heap.size) := by obtain ⟨_, hA, _, _⟩ := HN.out; exact fun g hg => (hA.1.lt g hg).2
        have hrg : wr.cell? ⟨w.heap.size, 0, none⟩ = some (.slice Ar zs.length cr) := by rw [blk_cell HKR.out]; rfl
        have HBW : Hid (Below w.heap.size w wr) := HN.out.bigD
        have hdn : ((j : Int) == 1) = decide (j = 1) := by rw [Bool.eq_iff_iff, beq_iff_eq, decide_eq_true_eq]; omega
        obtain ⟨dn, HDN⟩ : ∃ dn, Hid (decide (j = 1) = dn) := ⟨_, rfl⟩
        rw [HDN.out] at HXJ hdn
        have hj0 : (0 : Int) ≤ (j : Int) := by omega
        have hj1 : (j : Int) < 2 := by omega
        have hun := HU1.out.1
        have hblw : ad.block < wr.heap.size := Nat.lt_of_lt_of_le hbl' HB.out.s
        have hka := fun o => (((Below.refl wr.heap.size wr).alloc (Nat.le_refl _) o).cell (p := ad) hblw).trans cx
        have hkb := fun o => (((Below.refl wr.heap.size wr).alloc (Nat.le_refl _) o).cell (p := ⟨ad.block, ad.off + 1, none⟩) hblw).trans cy
        clear hx' hy' hbl' HDN
        go_wp2_with fail
        refine wp_region_held_drew (S := fun w' => w'.cell? ad = some (.int .i64 x) ∧ w'.cell? ⟨ad.block, ad.off + 1, none⟩ = some (.int .i64 y)) (by kernel_rfl) (by exact ⟨cx, cy⟩) (fun hHeld => ?_)
        refine wpAnyH_take (i := 0) (oi := ⟨_, _, _, _, _, _⟩) (v := ?vap25974q1n0) rfl (by kernel_rfl) (by kernel_rfl) (by kernel_rfl) (fun _ _ _ h => h) (Or.inl ⟨by rfl, ?hap25974q1n0⟩) (by assumption) ?_
        case hap25974q1n0 => (intro w hSw; (try dsimp only at hSw); go_simp; try with_reducible rfl)
        try simp only [Act.put, List.setIfInBounds_toArray, List.set_cons_zero, List.set_cons_succ]
        refine wpAnyH_take (i := 1) (oi := ⟨_, _, _, _, _, _⟩) (v := ?vap25974q2n1) rfl (by kernel_rfl) (by kernel_rfl) (by kernel_rfl) (fun _ _ _ h => h) (Or.inl ⟨by rfl, ?hap25974q2n1⟩) (by assumption) ?_
        case hap25974q2n1 => (intro w hSw; (try dsimp only at hSw); go_simp; try with_reducible rfl)
        try simp only [Act.put, List.setIfInBounds_toArray, List.set_cons_zero, List.set_cons_succ]
        refine wpAnyH_take (i := 2) (oi := ⟨_, _, _, _, _, _⟩) (v := ?vap25974q3n2) rfl (by kernel_rfl) (by kernel_rfl) (by kernel_rfl) (fun _ _ _ h => h) (Or.inl ⟨by rfl, ?hap25974q3n2⟩) (by assumption) ?_
        case hap25974q3n2 => (intro w hSw; (try dsimp only at hSw); go_simp; try with_reducible rfl)
        try simp only [Act.put, List.setIfInBounds_toArray, List.set_cons_zero, List.set_cons_succ]
        refine wpAnyH_take (i := 3) (oi := ⟨_, _, _, _, _, _⟩) (v := ?vap25974q4n3) rfl (by kernel_rfl) (by kernel_rfl) (by kernel_rfl) (fun _ _ _ h => h) (Or.inl ⟨by rfl, ?hap25974q4n3⟩) (by assumption) ?_
        case hap25974q4n3 => (intro w hSw; (try dsimp only at hSw); go_simp; try with_reducible rfl)
        try simp only [Act.put, List.setIfInBounds_toArray, List.set_cons_zero, List.set_cons_succ]
        refine wpAnyH_take (i := 4) (oi := ⟨_, _, _, _, _, _⟩) (v := ?vap25974q5n4) rfl (by kernel_rfl) (by kernel_rfl) (by kernel_rfl) (fun _ _ _ h => h) (Or.inl ⟨by rfl, ?hap25974q5n4⟩) (by assumption) ?_
        case hap25974q5n4 => (intro w hSw; (try dsimp only at hSw); go_simp; try with_reducible rfl)
        try simp only [Act.put, List.setIfInBounds_toArray, List.set_cons_zero, List.set_cons_succ]
        refine wpAnyH_take (i := 5) (oi := ⟨_, _, _, _, _, _⟩) (v := ?vap25974q6n5) rfl (by kernel_rfl) (by kernel_rfl) (by kernel_rfl) (fun _ _ _ h => h) (Or.inl ⟨by rfl, ?hap25974q6n5⟩) (by assumption) ?_
        case hap25974q6n5 => (intro w hSw; (try dsimp only at hSw); go_simp; try with_reducible rfl)
        try simp only [Act.put, List.setIfInBounds_toArray, List.set_cons_zero, List.set_cons_succ]
        refine wpAnyH_take (i := 6) (oi := ⟨_, _, _, _, _, _⟩) (v := ?vap25974q7n6) rfl (by kernel_rfl) (by kernel_rfl) (by kernel_rfl) (fun _ _ _ h => h) (Or.inl ⟨by rfl, ?hap25974q7n6⟩) (by assumption) ?_
        case hap25974q7n6 => (intro w hSw; (try dsimp only at hSw); go_simp; try with_reducible rfl)
        try simp only [Act.put, List.setIfInBounds_toArray, List.set_cons_zero, List.set_cons_succ]
        refine wpAnyH_take (i := 7) (oi := ⟨_, _, _, _, _, _⟩) (v := ?vap25974q8n7) rfl (by kernel_rfl) (by kernel_rfl) (by kernel_rfl) (fun _ _ _ h => h) (Or.inl ⟨by rfl, ?hap25974q8n7⟩) (by assumption) ?_
        case hap25974q8n7 => (intro w hSw; (try dsimp only at hSw); go_simp; try with_reducible rfl)
        try simp only [Act.put, List.setIfInBounds_toArray, List.set_cons_zero, List.set_cons_succ]
        refine wpAnyH_take (i := 8) (oi := ⟨_, _, _, _, _, _⟩) (v := ?vap25974q9n8) rfl (by kernel_rfl) (by kernel_rfl) (by kernel_rfl) (fun _ _ _ h => h) (Or.inl ⟨by rfl, ?hap25974q9n8⟩) (by assumption) ?_
        case hap25974q9n8 => (intro w hSw; (try dsimp only at hSw); go_simp; try with_reducible rfl)
        try simp only [Act.put, List.setIfInBounds_toArray, List.set_cons_zero, List.set_cons_succ]
        refine wpAnyH_take (i := 9) (oi := ⟨_, _, _, _, _, _⟩) (v := ?vap25974q10n9) rfl (by kernel_rfl) (by kernel_rfl) (by kernel_rfl) (fun _ _ _ h => h) (Or.inl ⟨by rfl, ?hap25974q10n9⟩) (by assumption) ?_
        case hap25974q10n9 => (intro w hSw; (try dsimp only at hSw); go_simp; try with_reducible rfl)
        try simp only [Act.put, List.setIfInBounds_toArray, List.set_cons_zero, List.set_cons_succ]
        refine wpAnyH_take (i := 10) (oi := ⟨_, _, _, _, _, _⟩) (v := ?vap25974q11n10) rfl (by kernel_rfl) (by kernel_rfl) (by kernel_rfl) (fun _ _ _ h => h) (Or.inl ⟨by rfl, ?hap25974q11n10⟩) (by assumption) ?_
        case hap25974q11n10 => (intro w hSw; (try dsimp only at hSw); go_simp; try with_reducible rfl)
        try simp only [Act.put, List.setIfInBounds_toArray, List.set_cons_zero, List.set_cons_succ]
        refine wpAnyH_ready (rs := [11]) (by kernel_rfl) (by simp) ?_
        refine AllReadyH.cons (o := ⟨_, _, _, _, _, _⟩) rfl (fun K hK => ?_) AllReadyH.nil
        go_simp
        refine hK.out _ _ (by exact ⟨hka _, hkb _⟩) (fun hHeld => ?_)
        clear hK K
        try simp only [Act.put, List.setIfInBounds_toArray, List.set_cons_zero, List.set_cons_succ]
        refine wpAnyH_ready (rs := [12]) (by kernel_rfl) (by simp) ?_
        refine AllReadyH.cons (o := ⟨_, _, _, _, _, _⟩) rfl (fun K hK => ?_) AllReadyH.nil
        go_simp
        refine hK.out _ _ (by exact ⟨hka _, hkb _⟩) (fun hHeld => ?_)
        clear hK K
        try simp only [Act.put, List.setIfInBounds_toArray, List.set_cons_zero, List.set_cons_succ]
        refine wpAnyH_done (by kernel_rfl) ?_ _
        obtain ⟨V1, HV1⟩ : ∃ V1, Hid (V1 = (wr.alloc (.cells #[.int .i64 x, .int .i64 y, .bool dn] 39)).drew) := ⟨_, rfl⟩
        have hb1 : Below wr.heap.size wr V1 := by rw [HV1.out]; exact ((Below.refl _ _).alloc (Nat.le_refl _) _).drew
        have HN1 := Lib.hid (HN.out.below hb1)
        have HB1w := Lib.hid (HBW.out.trans (hb1.mono HBW.out.size))
        have HB1c := Lib.hid (HB.out.below hb1)
        have HKr := Lib.hid (blk_below HKR.out hb1)
        have HKd1 : Hid (V1.heap[wr.heap.size]? = some (.cells #[.int .i64 x, .int .i64 y, .bool dn] 39 (0, 0))) := by rw [HV1.out]; exact heap_alloc_new wr _
        clear hb1 HN HB HBW HKR cx cy hrg hka hkb
        go_wp2_with fail
        rw [← HV1.out]
        clear HV1
        refine (l05Second_any x y dn _).mono ?_
        rintro e w3 ⟨rfl, hb3⟩
        have HN3 := Lib.hid (HN1.out.below hb3)
        have HB3w := Lib.hid (HB1w.out.trans (hb3.mono HB1w.out.size))
        have HB3c := Lib.hid (HB1c.out.below hb3)
        have HK3r := Lib.hid (blk_below HKr.out hb3)
        have HK3d := Lib.hid (blk_below HKd1.out hb3)
        clear hb3 HN1 HB1w HB1c HKr HKd1
        obtain ⟨V4, hV4, kc, hb4⟩ := one_alloc w3 (.cells #[.int .i64 (sndX x dn), .int .i64 (sndY y dn)] 41)
        have HN4 := Lib.hid (HN3.out.below hb4)
        have HB4w := Lib.hid (HB3w.out.trans (hb4.mono HB3w.out.size))
        have HB4c := Lib.hid (HB3c.out.below hb4)
        have HK4r := Lib.hid (blk_below HK3r.out hb4)
        have HK4d := Lib.hid (blk_below HK3d.out hb4)
        have HK4c := Lib.hid kc
        have HV4 := Lib.hid hV4
        have d0 : V4.cell? ⟨wr.heap.size, 0, none⟩ = some (.int .i64 x) := by rw [blk_cell HK4d.out]; rfl
        have d1 : V4.cell? ⟨wr.heap.size, 1, none⟩ = some (.int .i64 y) := by rw [blk_cell HK4d.out]; rfl
        have d2 : V4.cell? ⟨wr.heap.size, 2, none⟩ = some (.bool dn) := by rw [blk_cell HK4d.out]; rfl
        rw [hV4] at d0 d1 d2
        clear hV4 kc hb4 HN3 HB3w HB3c HK3r HK3d
        go_wp2_with fail
        rw [← HV4.out]
        clear d0 d1 d2 HV4
        refine (specDominoOk_any x y dn _).mono ?_
        rintro e w5 ⟨rfl, hb5⟩
        have HN5 := Lib.hid (HN4.out.below hb5)
        have HB5w := Lib.hid (HB4w.out.trans (hb5.mono HB4w.out.size))
        have HB5c := Lib.hid (HB4c.out.below hb5)
        have HK5r := Lib.hid (blk_below HK4r.out hb5)
        have HK5d := Lib.hid (blk_below HK4d.out hb5)
        have HK5c := Lib.hid (blk_below HK4c.out hb5)
        clear hb5 HN4 HB4w HB4c HK4r HK4d HK4c
        cases hdm : domB x y dn
        · have HNX : Hid (xs (j + 1) = xs j) := by
            rcases HXJ.out with ⟨⟨_, h2⟩, _⟩ | ⟨_, h2⟩
            · simp [okN, domL, hdm] at h2
            · exact h2
          clear hdm
          go_wp2_with fail
          go_roundw
          case rel => exact ⟨j + 1, _, _, by omega, by go_num, rfl, by rw [HNX.out]; exact HN5, HB5c⟩
          case measure => simp [intOf]; omega
        · obtain ⟨p, q, hp, hq, hp7, hq7⟩ := snd_nat hdm
          have HOK : Hid (okN R hd (x, y, dn) = (hasB R p q && uncB hd (p : Int) (q : Int))) := by
            unfold Hid okN domL
            rw [hdm, Bool.true_and]
            show (hasB R (sndX x dn).toNat (sndY y dn).toNat && uncB hd (sndX x dn) (sndY y dn)) = _
            rw [hp, hq, Int.toNat_natCast, Int.toNat_natCast]
          rw [HOK.out] at HXJ
          rw [hp, hq] at HK5c
          have r0 : w5.cell? ⟨w.heap.size, 0, none⟩ = some (.slice Ar zs.length cr) := by rw [blk_cell HK5r.out]; rfl
          have e0 : w5.cell? ⟨w3.heap.size, 0, none⟩ = some (.int .i64 (p : Int)) := by rw [blk_cell HK5c.out]; rfl
          have e1 : w5.cell? ⟨w3.heap.size, 1, none⟩ = some (.int .i64 (q : Int)) := by rw [blk_cell HK5c.out]; rfl
          clear hp hq hdm HOK
          go_wp2_with fail
          refine (HHC.out w5 HB5w.out p q hp7 hq7).mono ?_
          rintro e w6 ⟨rfl, hb6⟩
          have HN6 := Lib.hid (HN5.out.below hb6)
          have HB6w := Lib.hid (HB5w.out.trans (hb6.mono HB5w.out.size))
          have HB6c := Lib.hid (HB5c.out.below hb6)
          have HK6r := Lib.hid (blk_below HK5r.out hb6)
          have HK6d := Lib.hid (blk_below HK5d.out hb6)
          have HK6c := Lib.hid (blk_below HK5c.out hb6)
          clear hb6 HN5 HB5w HB5c HK5r HK5d HK5c r0 e0 e1
          cases hhb : hasB R p q
          · rw [hhb, Bool.false_and] at HXJ
            have HNX : Hid (xs (j + 1) = xs j) := by
              rcases HXJ.out with ⟨⟨_, h2⟩, _⟩ | ⟨_, h2⟩
              · simp at h2
              · exact h2
            clear hhb HXJ
            go_wp2_with fail
            go_roundw
            case rel => exact ⟨j + 1, _, _, by omega, by go_num, rfl, by rw [HNX.out]; exact HN6, HB6c⟩
            case measure => simp [intOf]; omega
          · rw [hhb, Bool.true_and] at HXJ
            have e0 : w6.cell? ⟨w3.heap.size, 0, none⟩ = some (.int .i64 (p : Int)) := by rw [blk_cell HK6c.out]; rfl
            have e1 : w6.cell? ⟨w3.heap.size, 1, none⟩ = some (.int .i64 (q : Int)) := by rw [blk_cell HK6c.out]; rfl
            clear hhb
            go_wp2_with fail
            refine (HDA.out w6 HB6w.out (p : Int) (q : Int)).mono ?_
            rintro e w7 ⟨rfl, hb7⟩
            have HN7 := Lib.hid (HN6.out.below hb7)
            have HB7w := Lib.hid (HB6w.out.trans (hb7.mono HB6w.out.size))
            have HB7c := Lib.hid (HB6c.out.below hb7)
            have HK7r := Lib.hid (blk_below HK6r.out hb7)
            have HK7d := Lib.hid (blk_below HK6d.out hb7)
            clear hb7 HN6 HB6w HB6c HK6r HK6d HK6c e0 e1
            have HUB : Hid (uncB hd (p : Int) (q : Int) = decide (fstZ (domAt hd (p : Int) (q : Int)) hd.length 0 < 0)) := rfl
            rw [HUB.out] at HXJ
            generalize fstZ (domAt hd (p : Int) (q : Int)) hd.length 0 = g at *
            by_cases hg : g < 0
            · have hg2 : decide (0 ≤ g) = false := by rw [decide_eq_false_iff_not]; omega
              have HSB := Lib.hid (HXJ.out.resolve_right fun h => h.1 ⟨hlm, by rw [decide_eq_true_eq]; exact hg⟩)
              obtain ⟨_, sub, HS1, HS2⟩ := HSB.out
              have HS2 := Lib.hid HS2
              have HS1 := Lib.hid HS1
              clear hg HSB HXJ HUB
              obtain ⟨_, hA, hE, hH⟩ := id HN7.out
              have HSL : Hid ((xs j).length + sub.length ≤ 100000) := by
                unfold Hid
                have h1 := hlj1.out
                rw [HS2.out, List.length_append] at h1
                exact h1
              have HIJ := Lib.hid (HIH.out (x, y, dn) (most - (xs j).length) sub HS1.out (by omega) (by have := HSL.out; omega))
              clear hA hE hH
              obtain ⟨mm, HMM⟩ : ∃ mm : Nat, Hid (most - (xs j).length = mm) := ⟨_, rfl⟩
              rw [HMM.out] at HS1 HIJ
              have hln1 : IntKind.i64.wrap ((most : Int) - ((xs j).length : Int)) = (mm : Int) := by rw [IntWalk.i64_in _ (by omega)]; have := HMM.out; omega
              have hln2 : (most : Int) - ((xs j).length : Int) = (mm : Int) := by have := HMM.out; omega
              have hln3 : IntKind.i64.wrap (mm : Int) = (mm : Int) := IntWalk.i64_in _ (by have := HMM.out; omega)
              clear HMM
              have hbA : Below w7.heap.size w7 (w7.alloc (.cells #[] 39)).drew := ((Below.refl _ _).alloc (Nat.le_refl _) _).drew
              have hbE : Below w7.heap.size w7 (w7.alloc (.cells #[.int .i64 x, .int .i64 y, .bool dn] 39)).drew := ((Below.refl _ _).alloc (Nat.le_refl _) _).drew
              have hbB : Below w7.heap.size w7 ((w7.alloc (.cells #[] 39)).alloc (.cells #[.int .i64 x, .int .i64 y, .bool dn] 39)).drew := (((Below.refl _ _).alloc (Nat.le_refl _) _).alloc (by simp) _).drew
              have hbC : Below w7.heap.size w7 ((w7.alloc (.cells #[.int .i64 x, .int .i64 y, .bool dn] 39)).alloc (.cells #[] 39)).drew := (((Below.refl _ _).alloc (Nat.le_refl _) _).alloc (by simp) _).drew
              have HAA : Hid (Acc elDomino w7 w7.heap.size (w7.alloc (.cells #[] 39)).drew (.slice (some ⟨w7.heap.size, 0, none⟩) 0 0) []) := (Acc.start w7).below (Below.refl _ _).drew
              have HAB2 : Hid (Acc elDomino w7 w7.heap.size ((w7.alloc (.cells #[] 39)).alloc (.cells #[.int .i64 x, .int .i64 y, .bool dn] 39)).drew (.slice (some ⟨w7.heap.size, 0, none⟩) 0 0) []) := (Acc.start w7).below ((Below.refl _ _).alloc (Nat.le_refl _) _).drew
              have HAC : Hid (Acc elDomino w7 w7.heap.size ((w7.alloc (.cells #[.int .i64 x, .int .i64 y, .bool dn] 39)).alloc (.cells #[] 39)).drew (.slice (some ⟨w7.heap.size + 1, 0, none⟩) 0 0) []) := by
                have := Acc.startAt (E := elDomino) (w := w7) (wr := w7.alloc (.cells #[.int .i64 x, .int .i64 y, .bool dn] 39)) (lo := w7.heap.size) ((Below.refl _ _).alloc (Nat.le_refl _) _) (Nat.le_refl _) (by simp)
                rw [show (w7.alloc (.cells #[.int .i64 x, .int .i64 y, .bool dn] 39)).heap.size = w7.heap.size + 1 by simp] at this
                exact this.below (Below.refl _ _).drew
              obtain ⟨_, hWB, kb0, kb1, _⟩ := two_alloc w7 (.cells #[] 39) (.cells #[.int .i64 x, .int .i64 y, .bool dn] 39)
              obtain ⟨_, hWC, kc0, kc1, _⟩ := two_alloc w7 (.cells #[.int .i64 x, .int .i64 y, .bool dn] 39) (.cells #[] 39)
              rw [hWB] at kb0 kb1
              rw [hWC] at kc0 kc1
              clear hWB hWC
              have HKB : Hid (∀ (w4 : World) (u4 : Value), GrewS ((w7.alloc (.cells #[] 39)).alloc (.cells #[.int .i64 x, .int .i64 y, .bool dn] 39)).drew w4 (.slice (some ⟨w7.heap.size, 0, none⟩) 0 0) u4 → w4.heap[w7.heap.size + 1]? = some (.cells #[.int .i64 x, .int .i64 y, .bool dn] 39 (0, 0))) := fun w4 u4 hg => (hg.1.block _ (lt_of_block kb1) (by simp [Value.ownBlock])).trans kb1
              have HKC : Hid (∀ (w4 : World) (u4 : Value), GrewS ((w7.alloc (.cells #[.int .i64 x, .int .i64 y, .bool dn] 39)).alloc (.cells #[] 39)).drew w4 (.slice (some ⟨w7.heap.size + 1, 0, none⟩) 0 0) u4 → w4.heap[w7.heap.size]? = some (.cells #[.int .i64 x, .int .i64 y, .bool dn] 39 (0, 0))) := fun w4 u4 hg => (hg.1.block _ (lt_of_block kc0) (by simp [Value.ownBlock])).trans kc0
              have HRH7 := Lib.hid ((HRH.out.below (HB7w.out.mono hB)).more (Nat.le_trans hB HB7w.out.size))
              have HRV7 := Lib.hid ((HRV.out.below (HB7w.out.mono hB)).more (Nat.le_trans hB HB7w.out.size))
              have HRA := Lib.hid (HRH7.out.below hbA)
              have HRB := Lib.hid (HRH7.out.below hbB)
              have HRC := Lib.hid (HRH7.out.below hbC)
              have HBA := Lib.hid hbA; have HBE := Lib.hid hbE; have HBB2 := Lib.hid hbB; have HBC := Lib.hid hbC
              have HS7 : Hid (LsS w7.drew w.heap.size wr.heap.size (.slice Ar zs.length cr) x y dn) := LsS.of HK7r.out HK7d.out (Below.refl _ _).drew
              clear hbA hbB hbC hbE kb0 kb1 kc0 kc1
              go_wp2_with fail
              refine wp_region_held_drew (S := fun w' => LsS w' w.heap.size wr.heap.size (.slice Ar zs.length cr) x y dn) (by kernel_rfl) (by exact HS7.out) (fun hHeld => ?_)
              refine wpAnyH_take (i := 0) (oi := ⟨_, _, _, _, _, _⟩) (v := ?vap25975q1n0) rfl (by kernel_rfl) (by kernel_rfl) (by kernel_rfl) (fun _ _ _ h => h) (Or.inl ⟨by rfl, ?hap25975q1n0⟩) (by assumption) ?_
              case hap25975q1n0 => (intro w hSw; (try dsimp only at hSw); go_simp; try with_reducible rfl)
              try simp only [Act.put, List.setIfInBounds_toArray, List.set_cons_zero, List.set_cons_succ]
              refine wpAnyH_take (i := 1) (oi := ⟨_, _, _, _, _, _⟩) (v := ?vap25975q2n1) rfl (by kernel_rfl) (by kernel_rfl) (by kernel_rfl) (fun _ _ _ h => h) (Or.inl ⟨by rfl, ?hap25975q2n1⟩) (by assumption) ?_
              case hap25975q2n1 => (intro w hSw; (try dsimp only at hSw); go_simp; try with_reducible rfl)
              try simp only [Act.put, List.setIfInBounds_toArray, List.set_cons_zero, List.set_cons_succ]
              refine wpAnyH_take (i := 3) (oi := ⟨_, _, _, _, _, _⟩) (v := ?vap25975q3n3) rfl (by kernel_rfl) (by kernel_rfl) (by kernel_rfl) (fun _ _ _ h => h) (Or.inl ⟨by rfl, ?hap25975q3n3⟩) (by assumption) ?_
              case hap25975q3n3 => (intro w hSw; (try dsimp only at hSw); go_simp; try with_reducible rfl)
              try simp only [Act.put, List.setIfInBounds_toArray, List.set_cons_zero, List.set_cons_succ]
              refine wpAnyH_take (i := 5) (oi := ⟨_, _, _, _, _, _⟩) (v := ?vap25975q4n5) rfl (by kernel_rfl) (by kernel_rfl) (by kernel_rfl) (fun _ _ _ h => h) (Or.inl ⟨by rfl, ?hap25975q4n5⟩) (by assumption) ?_
              case hap25975q4n5 => (intro w hSw; (try dsimp only at hSw); go_simp; try with_reducible rfl)
              try simp only [Act.put, List.setIfInBounds_toArray, List.set_cons_zero, List.set_cons_succ]
              refine wpAnyH_take (i := 8) (oi := ⟨_, _, _, _, _, _⟩) (v := ?vap25975q5n8) rfl (by kernel_rfl) (by kernel_rfl) (by kernel_rfl) (fun _ _ _ h => h) (Or.inl ⟨by rfl, ?hap25975q5n8⟩) (by assumption) ?_
              case hap25975q5n8 => (intro w hSw; (try dsimp only at hSw); go_simp; try with_reducible rfl)
              try simp only [Act.put, List.setIfInBounds_toArray, List.set_cons_zero, List.set_cons_succ]
              refine wpAnyH_take (i := 9) (oi := ⟨_, _, _, _, _, _⟩) (v := ?vap25975q6n9) rfl (by kernel_rfl) (by kernel_rfl) (by kernel_rfl) (fun _ _ _ h => h) (Or.inl ⟨by rfl, ?hap25975q6n9⟩) (by assumption) ?_
              case hap25975q6n9 => (intro w hSw; (try dsimp only at hSw); go_simp; try with_reducible rfl)
              try simp only [Act.put, List.setIfInBounds_toArray, List.set_cons_zero, List.set_cons_succ]
              refine wpAnyH_take (i := 10) (oi := ⟨_, _, _, _, _, _⟩) (v := ?vap25975q7n10) rfl (by kernel_rfl) (by kernel_rfl) (by kernel_rfl) (fun _ _ _ h => h) (Or.inl ⟨by rfl, ?hap25975q7n10⟩) (by assumption) ?_
              case hap25975q7n10 => (intro w hSw; (try dsimp only at hSw); go_simp; try with_reducible rfl)
              try simp only [Act.put, List.setIfInBounds_toArray, List.set_cons_zero, List.set_cons_succ]
              refine wpAnyH_take (i := 11) (oi := ⟨_, _, _, _, _, _⟩) (v := ?vap25975q8n11) rfl (by kernel_rfl) (by kernel_rfl) (by kernel_rfl) (fun _ _ _ h => h) (Or.inl ⟨by rfl, ?hap25975q8n11⟩) (by assumption) ?_
              case hap25975q8n11 => (intro w hSw; (try dsimp only at hSw); go_simp; try with_reducible rfl)
              try simp only [Act.put, List.setIfInBounds_toArray, List.set_cons_zero, List.set_cons_succ]
              refine wpAnyH_ready (rs := [2, 6]) (by kernel_rfl) (by simp) ?_
              refine AllReadyH.cons (o := ⟨_, _, _, _, _, _⟩) rfl (fun K hK => ?cp25975q9n2) (AllReadyH.cons (o := ⟨_, _, _, _, _, _⟩) rfl (fun K hK => ?cp25975q9n6) AllReadyH.nil)
              case cp25975q9n2 =>
                go_simp
                refine hK.out _ _ (by first | with_reducible exact LsS.of HK7r.out HK7d.out HBA.out | with_reducible exact LsS.of HK7r.out HK7d.out HBE.out | with_reducible exact LsS.of HK7r.out HK7d.out HBB2.out | with_reducible exact LsS.of HK7r.out HK7d.out HBC.out | with_reducible exact LsS.of HK7r.out HK7d.out HB4.out | with_reducible exact LsS.of HK7r.out HK7d.out HB4E.out | with_reducible exact LsS.of HK7r.out HK7d.out HB5.out | with_reducible exact LsS.of HK7r.out HK7d.out HB8.out | with_reducible exact HS9.out) (fun hHeld => ?_)
                clear hK K
                try simp only [Act.put, List.setIfInBounds_toArray, List.set_cons_zero, List.set_cons_succ]
                refine wpAnyH_ready (rs := [4, 6]) (by kernel_rfl) (by simp) ?_
                refine AllReadyH.cons (o := ⟨_, _, _, _, _, _⟩) rfl (fun K hK => ?cp25975q10n4) (AllReadyH.cons (o := ⟨_, _, _, _, _, _⟩) rfl (fun K hK => ?cp25975q10n6) AllReadyH.nil)
                case cp25975q10n4 =>
                  refine step_pushSrcF okDomino (by rfl) _ _ (by rfl) (by first | with_reducible exact HAA.out | with_reducible exact HAB2.out | with_reducible exact HAC.out) (by rfl) hd _ _ (by first | with_reducible exact HRA.out | with_reducible exact HRB.out | with_reducible exact HRC.out) (by rfl) (by simp; omega) ?_
                  intro u4 w4 HA4 HG4
                  rw [List.nil_append] at HA4
                  obtain ⟨A4, k4, hu4, _⟩ := HA4.out.1.rd okDomino
                  subst hu4
                  have HB4 : Hid (Below w7.heap.size w7 w4) := HA4.out.2.1
                  have HB4E : Hid (Below w7.heap.size w7 (w4.alloc (.cells #[.int .i64 x, .int .i64 y, .bool dn] 39))) := HB4.out.alloc HB4.out.size _
                  have HA4E : Hid (Acc elDomino w7 w7.heap.size (w4.alloc (.cells #[.int .i64 x, .int .i64 y, .bool dn] 39)) (.slice A4 hd.length k4) hd) := HA4.out.below ((Below.refl _ _).alloc (Nat.le_refl _) _)
                  have HX4A : Hid (RdF elDomino (w4.alloc (.cells #[.int .i64 x, .int .i64 y, .bool dn] 39)) (w4.alloc (.cells #[.int .i64 x, .int .i64 y, .bool dn] 39)).heap.size (.slice (some ⟨w4.heap.size, 0, none⟩) 1 1) [(x, y, dn)]) := rdF_1 rfl (heap_alloc_new w4 _) rfl
                  first
                    | (with_reducible (have hx9 := HKB.out _ _ HG4.out))
                    | (with_reducible (have hx9 := HKC.out _ _ HG4.out))
                    | skip
                  try (have HX4B := Lib.hid (rdF_1 (E := elDomino) (y := (x, y, dn)) rfl hx9 rfl))
                  refine hK.out _ _ (by first | with_reducible exact LsS.of HK7r.out HK7d.out HBA.out | with_reducible exact LsS.of HK7r.out HK7d.out HBE.out | with_reducible exact LsS.of HK7r.out HK7d.out HBB2.out | with_reducible exact LsS.of HK7r.out HK7d.out HBC.out | with_reducible exact LsS.of HK7r.out HK7d.out HB4.out | with_reducible exact LsS.of HK7r.out HK7d.out HB4E.out | with_reducible exact LsS.of HK7r.out HK7d.out HB5.out | with_reducible exact LsS.of HK7r.out HK7d.out HB8.out | with_reducible exact HS9.out) (fun hHeld => ?_)
                  clear hK K
                  try simp only [Act.put, List.setIfInBounds_toArray, List.set_cons_zero, List.set_cons_succ]
                  refine wpAnyH_ready (rs := [6]) (by kernel_rfl) (by simp) ?_
                  refine AllReadyH.cons (o := ⟨_, _, _, _, _, _⟩) rfl (fun K hK => ?_) AllReadyH.nil
                  go_simp
                  refine hK.out _ _ (by first | with_reducible exact LsS.of HK7r.out HK7d.out HBA.out | with_reducible exact LsS.of HK7r.out HK7d.out HBE.out | with_reducible exact LsS.of HK7r.out HK7d.out HBB2.out | with_reducible exact LsS.of HK7r.out HK7d.out HBC.out | with_reducible exact LsS.of HK7r.out HK7d.out HB4.out | with_reducible exact LsS.of HK7r.out HK7d.out HB4E.out | with_reducible exact LsS.of HK7r.out HK7d.out HB5.out | with_reducible exact LsS.of HK7r.out HK7d.out HB8.out | with_reducible exact HS9.out) (fun hHeld => ?_)
                  clear hK K
                  try simp only [Act.put, List.setIfInBounds_toArray, List.set_cons_zero, List.set_cons_succ]
                  refine wpAnyH_ready (rs := [7]) (by kernel_rfl) (by simp) ?_
                  refine AllReadyH.cons (o := ⟨_, _, _, _, _, _⟩) rfl (fun K hK => ?_) AllReadyH.nil
                  refine step_pushSrcF okDomino (by rfl) _ _ (by rfl) (by first | with_reducible exact HA4.out | with_reducible exact HA4E.out) (by rfl) [(x, y, dn)] _ _ (by first | with_reducible exact HX4A.out | with_reducible exact HX4B.out) (by rfl) (by simp; omega) ?_
                  intro u5 w5' HA5 HG5
                  obtain ⟨A5, k5, hu5, _⟩ := HA5.out.1.rd okDomino
                  rw [show (hd ++ [((x, y, dn) : Lk)]).length = hd.length + 1 by simp] at hu5
                  subst hu5
                  have HB5 : Hid (Below w7.heap.size w7 w5') := HA5.out.2.1
                  refine hK.out _ _ (by first | with_reducible exact LsS.of HK7r.out HK7d.out HBA.out | with_reducible exact LsS.of HK7r.out HK7d.out HBE.out | with_reducible exact LsS.of HK7r.out HK7d.out HBB2.out | with_reducible exact LsS.of HK7r.out HK7d.out HBC.out | with_reducible exact LsS.of HK7r.out HK7d.out HB4.out | with_reducible exact LsS.of HK7r.out HK7d.out HB4E.out | with_reducible exact LsS.of HK7r.out HK7d.out HB5.out | with_reducible exact LsS.of HK7r.out HK7d.out HB8.out | with_reducible exact HS9.out) (fun hHeld => ?_)
                  clear hK K
                  try simp only [Act.put, List.setIfInBounds_toArray, List.set_cons_zero, List.set_cons_succ]
                  refine wpAnyH_ready (rs := [12]) (by kernel_rfl) (by simp) ?_
                  refine AllReadyH.cons (o := ⟨_, _, _, _, _, _⟩) rfl (fun K hK => ?_) AllReadyH.nil
                  go_simp
                  go_at_call 16
                  try rw [hln3]
                  refine (HIJ.out w5' w5'.heap.size _ _ ((HRV7.out.below HB5.out).more HB5.out.size) (HA5.out.1.rd okDomino) (Nat.le_refl _)).mono ?_
                  rintro e w8 ⟨v8, hi8, rfl, ss8, hA8, hE8, hh8⟩
                  have HB8 : Hid (Below w7.heap.size w7 w8) := HB5.out.trans (hA8.2.1.mono HB5.out.size)
                  have HA8 := Lib.hid hA8
                  have HE8 := Lib.hid hE8
                  have HH8 := Lib.hid hh8
                  have HRS8 := Lib.hid (hA8.1.rd okDL)
                  obtain ⟨ss3, hA3, hE3, hh3⟩ := HN7.out
                  have HA3 := Lib.hid (hA3.below HB8.out)
                  have HE3 := Lib.hid (hE3.kept (w' := w8) HB8.out.size fun k _ hk _ => HB8.out.block k (by omega))
                  have HSS : Hid (ss3.length + ss8.length ≤ 100000) := by have h1 := HSL.out; have h2 := hE3.1; have h3 := hE8.1; unfold Hid; omega
                  have HH3 : Hid (hi ≤ w5'.heap.size ∧ hi ≤ w8.heap.size ∧ w.heap.size ≤ w5'.heap.size ∧ ∀ g, Value.ownBlock (.slice Ao (xs j).length co) = some g → g < w5'.heap.size) := ⟨Nat.le_trans hh3 HB5.out.size, Nat.le_trans hh3 HB8.out.size, Nat.le_trans hA3.2.1.size HB5.out.size, fun g hg => Nat.lt_of_lt_of_le (hA3.lt g hg).2 HB5.out.size⟩
                  clear hA8 hE8 hh8 hA3 hE3 hh3
                  refine hK.out _ _ (by first | with_reducible exact LsS.of HK7r.out HK7d.out HBA.out | with_reducible exact LsS.of HK7r.out HK7d.out HBE.out | with_reducible exact LsS.of HK7r.out HK7d.out HBB2.out | with_reducible exact LsS.of HK7r.out HK7d.out HBC.out | with_reducible exact LsS.of HK7r.out HK7d.out HB4.out | with_reducible exact LsS.of HK7r.out HK7d.out HB4E.out | with_reducible exact LsS.of HK7r.out HK7d.out HB5.out | with_reducible exact LsS.of HK7r.out HK7d.out HB8.out | with_reducible exact HS9.out) (fun hHeld => ?_)
                  clear hK K
                  try simp only [Act.put, List.setIfInBounds_toArray, List.set_cons_zero, List.set_cons_succ]
                  refine wpAnyH_ready (rs := [13]) (by kernel_rfl) (by simp) ?_
                  refine AllReadyH.cons (o := ⟨_, _, _, _, _, _⟩) rfl (fun K hK => ?_) AllReadyH.nil
                  refine step_pushSrcF okDL (by rfl) _ _ (by rfl) HA3.out (by rfl) ss8 _ _ HRS8.out (by rfl) (by have := HSS.out; omega) ?_
                  intro v9 w9 HA9 HG9
                  have HN9 : Hid (NRel (kdF elDomino) eDL w w.heap.size w.heap.size w9 w9.heap.size v9 (xs j ++ sub)) := by
                    have h3 := HH3.out
                    exact NRel.append HE3.out h3.2.1 HE8.out h3.2.2.1 h3.1 HH8.out (fun g hg => .inl (h3.2.2.2 g hg)) HA9 HG9
                  have HB9 := Lib.hid ((HB7c.out.below HB8.out).grew HG9.out)
                  have HS9 : Hid (LsS w9 w.heap.size wr.heap.size (.slice Ar zs.length cr) x y dn) := LsS.at ((HG9.out.1.block _ (lt_of_block (blk_below HK7r.out HB8.out)) (fun e => by rcases HB7c.out.o _ e.symm with h | h <;> omega)).trans (blk_below HK7r.out HB8.out)) ((HG9.out.1.block _ (lt_of_block (blk_below HK7d.out HB8.out)) (fun e => by have := HOL.out _ e.symm; omega)).trans (blk_below HK7d.out HB8.out))
                  refine hK.out _ _ (by first | with_reducible exact LsS.of HK7r.out HK7d.out HBA.out | with_reducible exact LsS.of HK7r.out HK7d.out HBE.out | with_reducible exact LsS.of HK7r.out HK7d.out HBB2.out | with_reducible exact LsS.of HK7r.out HK7d.out HBC.out | with_reducible exact LsS.of HK7r.out HK7d.out HB4.out | with_reducible exact LsS.of HK7r.out HK7d.out HB4E.out | with_reducible exact LsS.of HK7r.out HK7d.out HB5.out | with_reducible exact LsS.of HK7r.out HK7d.out HB8.out | with_reducible exact HS9.out) (fun hHeld => ?_)
                  clear hK K
                  try simp only [Act.put, List.setIfInBounds_toArray, List.set_cons_zero, List.set_cons_succ]
                  refine wpAnyH_take (i := 14) (oi := ⟨_, _, _, _, _, _⟩) (v := ?vap25975q11n14) rfl (by kernel_rfl) (by kernel_rfl) (by kernel_rfl) (fun _ _ _ h => h) (Or.inl ⟨by rfl, ?hap25975q11n14⟩) (by assumption) ?_
                  case hap25975q11n14 => (intro w hSw; (try dsimp only at hSw); go_simp; try with_reducible rfl)
                  try simp only [Act.put, List.setIfInBounds_toArray, List.set_cons_zero, List.set_cons_succ]
                  refine wpAnyH_done (by kernel_rfl) ?_ _
                  go_wp2_with fail
                  go_roundw
                  case rel => exact ⟨j + 1, _, _, by omega, by go_num, rfl, by rw [HS2.out]; exact HN9, HB9⟩
                  case measure => simp [intOf]; omega
                case cp25975q10n6 =>
                  go_simp
                  refine hK.out _ _ (by first | with_reducible exact LsS.of HK7r.out HK7d.out HBA.out | with_reducible exact LsS.of HK7r.out HK7d.out HBE.out | with_reducible exact LsS.of HK7r.out HK7d.out HBB2.out | with_reducible exact LsS.of HK7r.out HK7d.out HBC.out | with_reducible exact LsS.of HK7r.out HK7d.out HB4.out | with_reducible exact LsS.of HK7r.out HK7d.out HB4E.out | with_reducible exact LsS.of HK7r.out HK7d.out HB5.out | with_reducible exact LsS.of HK7r.out HK7d.out HB8.out | with_reducible exact HS9.out) (fun hHeld => ?_)
                  clear hK K
                  try simp only [Act.put, List.setIfInBounds_toArray, List.set_cons_zero, List.set_cons_succ]
                  refine wpAnyH_ready (rs := [4]) (by kernel_rfl) (by simp) ?_
                  refine AllReadyH.cons (o := ⟨_, _, _, _, _, _⟩) rfl (fun K hK => ?_) AllReadyH.nil
                  refine step_pushSrcF okDomino (by rfl) _ _ (by rfl) (by first | with_reducible exact HAA.out | with_reducible exact HAB2.out | with_reducible exact HAC.out) (by rfl) hd _ _ (by first | with_reducible exact HRA.out | with_reducible exact HRB.out | with_reducible exact HRC.out) (by rfl) (by simp; omega) ?_
                  intro u4 w4 HA4 HG4
                  rw [List.nil_append] at HA4
                  obtain ⟨A4, k4, hu4, _⟩ := HA4.out.1.rd okDomino
                  subst hu4
                  have HB4 : Hid (Below w7.heap.size w7 w4) := HA4.out.2.1
                  have HB4E : Hid (Below w7.heap.size w7 (w4.alloc (.cells #[.int .i64 x, .int .i64 y, .bool dn] 39))) := HB4.out.alloc HB4.out.size _
                  have HA4E : Hid (Acc elDomino w7 w7.heap.size (w4.alloc (.cells #[.int .i64 x, .int .i64 y, .bool dn] 39)) (.slice A4 hd.length k4) hd) := HA4.out.below ((Below.refl _ _).alloc (Nat.le_refl _) _)
                  have HX4A : Hid (RdF elDomino (w4.alloc (.cells #[.int .i64 x, .int .i64 y, .bool dn] 39)) (w4.alloc (.cells #[.int .i64 x, .int .i64 y, .bool dn] 39)).heap.size (.slice (some ⟨w4.heap.size, 0, none⟩) 1 1) [(x, y, dn)]) := rdF_1 rfl (heap_alloc_new w4 _) rfl
                  first
                    | (with_reducible (have hx9 := HKB.out _ _ HG4.out))
                    | (with_reducible (have hx9 := HKC.out _ _ HG4.out))
                    | skip
                  try (have HX4B := Lib.hid (rdF_1 (E := elDomino) (y := (x, y, dn)) rfl hx9 rfl))
                  refine hK.out _ _ (by first | with_reducible exact LsS.of HK7r.out HK7d.out HBA.out | with_reducible exact LsS.of HK7r.out HK7d.out HBE.out | with_reducible exact LsS.of HK7r.out HK7d.out HBB2.out | with_reducible exact LsS.of HK7r.out HK7d.out HBC.out | with_reducible exact LsS.of HK7r.out HK7d.out HB4.out | with_reducible exact LsS.of HK7r.out HK7d.out HB4E.out | with_reducible exact LsS.of HK7r.out HK7d.out HB5.out | with_reducible exact LsS.of HK7r.out HK7d.out HB8.out | with_reducible exact HS9.out) (fun hHeld => ?_)
                  clear hK K
                  try simp only [Act.put, List.setIfInBounds_toArray, List.set_cons_zero, List.set_cons_succ]
                  refine wpAnyH_ready (rs := [7]) (by kernel_rfl) (by simp) ?_
                  refine AllReadyH.cons (o := ⟨_, _, _, _, _, _⟩) rfl (fun K hK => ?_) AllReadyH.nil
                  refine step_pushSrcF okDomino (by rfl) _ _ (by rfl) (by first | with_reducible exact HA4.out | with_reducible exact HA4E.out) (by rfl) [(x, y, dn)] _ _ (by first | with_reducible exact HX4A.out | with_reducible exact HX4B.out) (by rfl) (by simp; omega) ?_
                  intro u5 w5' HA5 HG5
                  obtain ⟨A5, k5, hu5, _⟩ := HA5.out.1.rd okDomino
                  rw [show (hd ++ [((x, y, dn) : Lk)]).length = hd.length + 1 by simp] at hu5
                  subst hu5
                  have HB5 : Hid (Below w7.heap.size w7 w5') := HA5.out.2.1
                  refine hK.out _ _ (by first | with_reducible exact LsS.of HK7r.out HK7d.out HBA.out | with_reducible exact LsS.of HK7r.out HK7d.out HBE.out | with_reducible exact LsS.of HK7r.out HK7d.out HBB2.out | with_reducible exact LsS.of HK7r.out HK7d.out HBC.out | with_reducible exact LsS.of HK7r.out HK7d.out HB4.out | with_reducible exact LsS.of HK7r.out HK7d.out HB4E.out | with_reducible exact LsS.of HK7r.out HK7d.out HB5.out | with_reducible exact LsS.of HK7r.out HK7d.out HB8.out | with_reducible exact HS9.out) (fun hHeld => ?_)
                  clear hK K
                  try simp only [Act.put, List.setIfInBounds_toArray, List.set_cons_zero, List.set_cons_succ]
                  refine wpAnyH_ready (rs := [12]) (by kernel_rfl) (by simp) ?_
                  refine AllReadyH.cons (o := ⟨_, _, _, _, _, _⟩) rfl (fun K hK => ?_) AllReadyH.nil
                  go_simp
                  go_at_call 16
                  try rw [hln3]
                  refine (HIJ.out w5' w5'.heap.size _ _ ((HRV7.out.below HB5.out).more HB5.out.size) (HA5.out.1.rd okDomino) (Nat.le_refl _)).mono ?_
                  rintro e w8 ⟨v8, hi8, rfl, ss8, hA8, hE8, hh8⟩
                  have HB8 : Hid (Below w7.heap.size w7 w8) := HB5.out.trans (hA8.2.1.mono HB5.out.size)
                  have HA8 := Lib.hid hA8
                  have HE8 := Lib.hid hE8
                  have HH8 := Lib.hid hh8
                  have HRS8 := Lib.hid (hA8.1.rd okDL)
                  obtain ⟨ss3, hA3, hE3, hh3⟩ := HN7.out
                  have HA3 := Lib.hid (hA3.below HB8.out)
                  have HE3 := Lib.hid (hE3.kept (w' := w8) HB8.out.size fun k _ hk _ => HB8.out.block k (by omega))
                  have HSS : Hid (ss3.length + ss8.length ≤ 100000) := by have h1 := HSL.out; have h2 := hE3.1; have h3 := hE8.1; unfold Hid; omega
                  have HH3 : Hid (hi ≤ w5'.heap.size ∧ hi ≤ w8.heap.size ∧ w.heap.size ≤ w5'.heap.size ∧ ∀ g, Value.ownBlock (.slice Ao (xs j).length co) = some g → g < w5'.heap.size) := ⟨Nat.le_trans hh3 HB5.out.size, Nat.le_trans hh3 HB8.out.size, Nat.le_trans hA3.2.1.size HB5.out.size, fun g hg => Nat.lt_of_lt_of_le (hA3.lt g hg).2 HB5.out.size⟩
                  clear hA8 hE8 hh8 hA3 hE3 hh3
                  refine hK.out _ _ (by first | with_reducible exact LsS.of HK7r.out HK7d.out HBA.out | with_reducible exact LsS.of HK7r.out HK7d.out HBE.out | with_reducible exact LsS.of HK7r.out HK7d.out HBB2.out | with_reducible exact LsS.of HK7r.out HK7d.out HBC.out | with_reducible exact LsS.of HK7r.out HK7d.out HB4.out | with_reducible exact LsS.of HK7r.out HK7d.out HB4E.out | with_reducible exact LsS.of HK7r.out HK7d.out HB5.out | with_reducible exact LsS.of HK7r.out HK7d.out HB8.out | with_reducible exact HS9.out) (fun hHeld => ?_)
                  clear hK K
                  try simp only [Act.put, List.setIfInBounds_toArray, List.set_cons_zero, List.set_cons_succ]
                  refine wpAnyH_ready (rs := [13]) (by kernel_rfl) (by simp) ?_
                  refine AllReadyH.cons (o := ⟨_, _, _, _, _, _⟩) rfl (fun K hK => ?_) AllReadyH.nil
                  refine step_pushSrcF okDL (by rfl) _ _ (by rfl) HA3.out (by rfl) ss8 _ _ HRS8.out (by rfl) (by have := HSS.out; omega) ?_
                  intro v9 w9 HA9 HG9
                  have HN9 : Hid (NRel (kdF elDomino) eDL w w.heap.size w.heap.size w9 w9.heap.size v9 (xs j ++ sub)) := by
                    have h3 := HH3.out
                    exact NRel.append HE3.out h3.2.1 HE8.out h3.2.2.1 h3.1 HH8.out (fun g hg => .inl (h3.2.2.2 g hg)) HA9 HG9
                  have HB9 := Lib.hid ((HB7c.out.below HB8.out).grew HG9.out)
                  have HS9 : Hid (LsS w9 w.heap.size wr.heap.size (.slice Ar zs.length cr) x y dn) := LsS.at ((HG9.out.1.block _ (lt_of_block (blk_below HK7r.out HB8.out)) (fun e => by rcases HB7c.out.o _ e.symm with h | h <;> omega)).trans (blk_below HK7r.out HB8.out)) ((HG9.out.1.block _ (lt_of_block (blk_below HK7d.out HB8.out)) (fun e => by have := HOL.out _ e.symm; omega)).trans (blk_below HK7d.out HB8.out))
                  refine hK.out _ _ (by first | with_reducible exact LsS.of HK7r.out HK7d.out HBA.out | with_reducible exact LsS.of HK7r.out HK7d.out HBE.out | with_reducible exact LsS.of HK7r.out HK7d.out HBB2.out | with_reducible exact LsS.of HK7r.out HK7d.out HBC.out | with_reducible exact LsS.of HK7r.out HK7d.out HB4.out | with_reducible exact LsS.of HK7r.out HK7d.out HB4E.out | with_reducible exact LsS.of HK7r.out HK7d.out HB5.out | with_reducible exact LsS.of HK7r.out HK7d.out HB8.out | with_reducible exact HS9.out) (fun hHeld => ?_)
                  clear hK K
                  try simp only [Act.put, List.setIfInBounds_toArray, List.set_cons_zero, List.set_cons_succ]
                  refine wpAnyH_take (i := 14) (oi := ⟨_, _, _, _, _, _⟩) (v := ?vap25975q12n14) rfl (by kernel_rfl) (by kernel_rfl) (by kernel_rfl) (fun _ _ _ h => h) (Or.inl ⟨by rfl, ?hap25975q12n14⟩) (by assumption) ?_
                  case hap25975q12n14 => (intro w hSw; (try dsimp only at hSw); go_simp; try with_reducible rfl)
                  try simp only [Act.put, List.setIfInBounds_toArray, List.set_cons_zero, List.set_cons_succ]
                  refine wpAnyH_done (by kernel_rfl) ?_ _
                  go_wp2_with fail
                  go_roundw
                  case rel => exact ⟨j + 1, _, _, by omega, by go_num, rfl, by rw [HS2.out]; exact HN9, HB9⟩
                  case measure => simp [intOf]; omega
              case cp25975q9n6 =>
                go_simp
                refine hK.out _ _ (by first | with_reducible exact LsS.of HK7r.out HK7d.out HBA.out | with_reducible exact LsS.of HK7r.out HK7d.out HBE.out | with_reducible exact LsS.of HK7r.out HK7d.out HBB2.out | with_reducible exact LsS.of HK7r.out HK7d.out HBC.out | with_reducible exact LsS.of HK7r.out HK7d.out HB4.out | with_reducible exact LsS.of HK7r.out HK7d.out HB4E.out | with_reducible exact LsS.of HK7r.out HK7d.out HB5.out | with_reducible exact LsS.of HK7r.out HK7d.out HB8.out | with_reducible exact HS9.out) (fun hHeld => ?_)
                clear hK K
                try simp only [Act.put, List.setIfInBounds_toArray, List.set_cons_zero, List.set_cons_succ]
                refine wpAnyH_ready (rs := [2]) (by kernel_rfl) (by simp) ?_
                refine AllReadyH.cons (o := ⟨_, _, _, _, _, _⟩) rfl (fun K hK => ?_) AllReadyH.nil
                go_simp
                refine hK.out _ _ (by first | with_reducible exact LsS.of HK7r.out HK7d.out HBA.out | with_reducible exact LsS.of HK7r.out HK7d.out HBE.out | with_reducible exact LsS.of HK7r.out HK7d.out HBB2.out | with_reducible exact LsS.of HK7r.out HK7d.out HBC.out | with_reducible exact LsS.of HK7r.out HK7d.out HB4.out | with_reducible exact LsS.of HK7r.out HK7d.out HB4E.out | with_reducible exact LsS.of HK7r.out HK7d.out HB5.out | with_reducible exact LsS.of HK7r.out HK7d.out HB8.out | with_reducible exact HS9.out) (fun hHeld => ?_)
                clear hK K
                try simp only [Act.put, List.setIfInBounds_toArray, List.set_cons_zero, List.set_cons_succ]
                refine wpAnyH_ready (rs := [4]) (by kernel_rfl) (by simp) ?_
                refine AllReadyH.cons (o := ⟨_, _, _, _, _, _⟩) rfl (fun K hK => ?_) AllReadyH.nil
                refine step_pushSrcF okDomino (by rfl) _ _ (by rfl) (by first | with_reducible exact HAA.out | with_reducible exact HAB2.out | with_reducible exact HAC.out) (by rfl) hd _ _ (by first | with_reducible exact HRA.out | with_reducible exact HRB.out | with_reducible exact HRC.out) (by rfl) (by simp; omega) ?_
                intro u4 w4 HA4 HG4
                rw [List.nil_append] at HA4
                obtain ⟨A4, k4, hu4, _⟩ := HA4.out.1.rd okDomino
                subst hu4
                have HB4 : Hid (Below w7.heap.size w7 w4) := HA4.out.2.1
                have HB4E : Hid (Below w7.heap.size w7 (w4.alloc (.cells #[.int .i64 x, .int .i64 y, .bool dn] 39))) := HB4.out.alloc HB4.out.size _
                have HA4E : Hid (Acc elDomino w7 w7.heap.size (w4.alloc (.cells #[.int .i64 x, .int .i64 y, .bool dn] 39)) (.slice A4 hd.length k4) hd) := HA4.out.below ((Below.refl _ _).alloc (Nat.le_refl _) _)
                have HX4A : Hid (RdF elDomino (w4.alloc (.cells #[.int .i64 x, .int .i64 y, .bool dn] 39)) (w4.alloc (.cells #[.int .i64 x, .int .i64 y, .bool dn] 39)).heap.size (.slice (some ⟨w4.heap.size, 0, none⟩) 1 1) [(x, y, dn)]) := rdF_1 rfl (heap_alloc_new w4 _) rfl
                first
                  | (with_reducible (have hx9 := HKB.out _ _ HG4.out))
                  | (with_reducible (have hx9 := HKC.out _ _ HG4.out))
                  | skip
                try (have HX4B := Lib.hid (rdF_1 (E := elDomino) (y := (x, y, dn)) rfl hx9 rfl))
                refine hK.out _ _ (by first | with_reducible exact LsS.of HK7r.out HK7d.out HBA.out | with_reducible exact LsS.of HK7r.out HK7d.out HBE.out | with_reducible exact LsS.of HK7r.out HK7d.out HBB2.out | with_reducible exact LsS.of HK7r.out HK7d.out HBC.out | with_reducible exact LsS.of HK7r.out HK7d.out HB4.out | with_reducible exact LsS.of HK7r.out HK7d.out HB4E.out | with_reducible exact LsS.of HK7r.out HK7d.out HB5.out | with_reducible exact LsS.of HK7r.out HK7d.out HB8.out | with_reducible exact HS9.out) (fun hHeld => ?_)
                clear hK K
                try simp only [Act.put, List.setIfInBounds_toArray, List.set_cons_zero, List.set_cons_succ]
                refine wpAnyH_ready (rs := [7]) (by kernel_rfl) (by simp) ?_
                refine AllReadyH.cons (o := ⟨_, _, _, _, _, _⟩) rfl (fun K hK => ?_) AllReadyH.nil
                refine step_pushSrcF okDomino (by rfl) _ _ (by rfl) (by first | with_reducible exact HA4.out | with_reducible exact HA4E.out) (by rfl) [(x, y, dn)] _ _ (by first | with_reducible exact HX4A.out | with_reducible exact HX4B.out) (by rfl) (by simp; omega) ?_
                intro u5 w5' HA5 HG5
                obtain ⟨A5, k5, hu5, _⟩ := HA5.out.1.rd okDomino
                rw [show (hd ++ [((x, y, dn) : Lk)]).length = hd.length + 1 by simp] at hu5
                subst hu5
                have HB5 : Hid (Below w7.heap.size w7 w5') := HA5.out.2.1
                refine hK.out _ _ (by first | with_reducible exact LsS.of HK7r.out HK7d.out HBA.out | with_reducible exact LsS.of HK7r.out HK7d.out HBE.out | with_reducible exact LsS.of HK7r.out HK7d.out HBB2.out | with_reducible exact LsS.of HK7r.out HK7d.out HBC.out | with_reducible exact LsS.of HK7r.out HK7d.out HB4.out | with_reducible exact LsS.of HK7r.out HK7d.out HB4E.out | with_reducible exact LsS.of HK7r.out HK7d.out HB5.out | with_reducible exact LsS.of HK7r.out HK7d.out HB8.out | with_reducible exact HS9.out) (fun hHeld => ?_)
                clear hK K
                try simp only [Act.put, List.setIfInBounds_toArray, List.set_cons_zero, List.set_cons_succ]
                refine wpAnyH_ready (rs := [12]) (by kernel_rfl) (by simp) ?_
                refine AllReadyH.cons (o := ⟨_, _, _, _, _, _⟩) rfl (fun K hK => ?_) AllReadyH.nil
                go_simp
                go_at_call 16
                try rw [hln3]
                refine (HIJ.out w5' w5'.heap.size _ _ ((HRV7.out.below HB5.out).more HB5.out.size) (HA5.out.1.rd okDomino) (Nat.le_refl _)).mono ?_
                rintro e w8 ⟨v8, hi8, rfl, ss8, hA8, hE8, hh8⟩
                have HB8 : Hid (Below w7.heap.size w7 w8) := HB5.out.trans (hA8.2.1.mono HB5.out.size)
                have HA8 := Lib.hid hA8
                have HE8 := Lib.hid hE8
                have HH8 := Lib.hid hh8
                have HRS8 := Lib.hid (hA8.1.rd okDL)
                obtain ⟨ss3, hA3, hE3, hh3⟩ := HN7.out
                have HA3 := Lib.hid (hA3.below HB8.out)
                have HE3 := Lib.hid (hE3.kept (w' := w8) HB8.out.size fun k _ hk _ => HB8.out.block k (by omega))
                have HSS : Hid (ss3.length + ss8.length ≤ 100000) := by have h1 := HSL.out; have h2 := hE3.1; have h3 := hE8.1; unfold Hid; omega
                have HH3 : Hid (hi ≤ w5'.heap.size ∧ hi ≤ w8.heap.size ∧ w.heap.size ≤ w5'.heap.size ∧ ∀ g, Value.ownBlock (.slice Ao (xs j).length co) = some g → g < w5'.heap.size) := ⟨Nat.le_trans hh3 HB5.out.size, Nat.le_trans hh3 HB8.out.size, Nat.le_trans hA3.2.1.size HB5.out.size, fun g hg => Nat.lt_of_lt_of_le (hA3.lt g hg).2 HB5.out.size⟩
                clear hA8 hE8 hh8 hA3 hE3 hh3
                refine hK.out _ _ (by first | with_reducible exact LsS.of HK7r.out HK7d.out HBA.out | with_reducible exact LsS.of HK7r.out HK7d.out HBE.out | with_reducible exact LsS.of HK7r.out HK7d.out HBB2.out | with_reducible exact LsS.of HK7r.out HK7d.out HBC.out | with_reducible exact LsS.of HK7r.out HK7d.out HB4.out | with_reducible exact LsS.of HK7r.out HK7d.out HB4E.out | with_reducible exact LsS.of HK7r.out HK7d.out HB5.out | with_reducible exact LsS.of HK7r.out HK7d.out HB8.out | with_reducible exact HS9.out) (fun hHeld => ?_)
                clear hK K
                try simp only [Act.put, List.setIfInBounds_toArray, List.set_cons_zero, List.set_cons_succ]
                refine wpAnyH_ready (rs := [13]) (by kernel_rfl) (by simp) ?_
                refine AllReadyH.cons (o := ⟨_, _, _, _, _, _⟩) rfl (fun K hK => ?_) AllReadyH.nil
                refine step_pushSrcF okDL (by rfl) _ _ (by rfl) HA3.out (by rfl) ss8 _ _ HRS8.out (by rfl) (by have := HSS.out; omega) ?_
                intro v9 w9 HA9 HG9
                have HN9 : Hid (NRel (kdF elDomino) eDL w w.heap.size w.heap.size w9 w9.heap.size v9 (xs j ++ sub)) := by
                  have h3 := HH3.out
                  exact NRel.append HE3.out h3.2.1 HE8.out h3.2.2.1 h3.1 HH8.out (fun g hg => .inl (h3.2.2.2 g hg)) HA9 HG9
                have HB9 := Lib.hid ((HB7c.out.below HB8.out).grew HG9.out)
                have HS9 : Hid (LsS w9 w.heap.size wr.heap.size (.slice Ar zs.length cr) x y dn) := LsS.at ((HG9.out.1.block _ (lt_of_block (blk_below HK7r.out HB8.out)) (fun e => by rcases HB7c.out.o _ e.symm with h | h <;> omega)).trans (blk_below HK7r.out HB8.out)) ((HG9.out.1.block _ (lt_of_block (blk_below HK7d.out HB8.out)) (fun e => by have := HOL.out _ e.symm; omega)).trans (blk_below HK7d.out HB8.out))
                refine hK.out _ _ (by first | with_reducible exact LsS.of HK7r.out HK7d.out HBA.out | with_reducible exact LsS.of HK7r.out HK7d.out HBE.out | with_reducible exact LsS.of HK7r.out HK7d.out HBB2.out | with_reducible exact LsS.of HK7r.out HK7d.out HBC.out | with_reducible exact LsS.of HK7r.out HK7d.out HB4.out | with_reducible exact LsS.of HK7r.out HK7d.out HB4E.out | with_reducible exact LsS.of HK7r.out HK7d.out HB5.out | with_reducible exact LsS.of HK7r.out HK7d.out HB8.out | with_reducible exact HS9.out) (fun hHeld => ?_)
                clear hK K
                try simp only [Act.put, List.setIfInBounds_toArray, List.set_cons_zero, List.set_cons_succ]
                refine wpAnyH_take (i := 14) (oi := ⟨_, _, _, _, _, _⟩) (v := ?vap25975q13n14) rfl (by kernel_rfl) (by kernel_rfl) (by kernel_rfl) (fun _ _ _ h => h) (Or.inl ⟨by rfl, ?hap25975q13n14⟩) (by assumption) ?_
                case hap25975q13n14 => (intro w hSw; (try dsimp only at hSw); go_simp; try with_reducible rfl)
                try simp only [Act.put, List.setIfInBounds_toArray, List.set_cons_zero, List.set_cons_succ]
                refine wpAnyH_done (by kernel_rfl) ?_ _
                go_wp2_with fail
                go_roundw
                case rel => exact ⟨j + 1, _, _, by omega, by go_num, rfl, by rw [HS2.out]; exact HN9, HB9⟩
                case measure => simp [intOf]; omega
            · have hg2 : decide (0 ≤ g) = true := by rw [decide_eq_true_eq]; omega
              have HNX : Hid (xs (j + 1) = xs j) := (HXJ.out.resolve_left fun h => by have := h.1.2; rw [decide_eq_true_eq] at this; exact hg this).2
              clear hg HXJ
              go_wp2_with fail
              go_roundw
              case rel => exact ⟨j + 1, _, _, by omega, by go_num, rfl, by rw [HNX.out]; exact HN7, HB7c⟩
              case measure => simp [intOf]; omega
      · have hlm2 : decide (((xs j).length : Int) < (most : Int)) = false := by simp only [decide_eq_false_iff_not]; omega
        have HFX : Hid (xs 2 = xs j) := by
          have step : ∀ i, i < 2 → xs i = xs j → xs (i + 1) = xs j := fun i hi he => by
            rcases HXS.out i hi with ⟨⟨h1, _⟩, _⟩ | ⟨_, h2⟩
            · rw [he] at h1; omega
            · rw [h2, he]
          rcases (show j = 0 ∨ j = 1 by omega) with rfl | rfl
          · exact step 1 (by omega) (step 0 (by omega) rfl)
          · exact step 1 (by omega) rfl
        go_wp2_with fail
        go_ret
        rw [HFX.out]
        exact ⟨_, _, rfl, HN.out⟩
    · have ht : decide ((j : Int) < 2) = false := by simp only [decide_eq_false_iff_not]; omega
      obtain rfl : j = 2 := by omega
      go_wp2_with fail
      go_ret
      exact ⟨_, _, rfl, HN.out⟩
end Go.Proofs.YtehnbalbpfmijaaDoor
