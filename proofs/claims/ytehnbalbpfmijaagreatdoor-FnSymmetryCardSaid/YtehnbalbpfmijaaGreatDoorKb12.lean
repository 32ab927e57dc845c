/- What the claim's walk rests on: parts LkIx, Cells, Uncov, Lst, Lst2, FstT, HasS, SortS, Flip. -/
import Derived.Test.YtehnbalbpfmijaaGreatDoorKb11
import Derived.Test.YtehnbalbpfmijaaGreatDoorKb1
import Derived.Test.YtehnbalbpfmijaaGreatDoorKb2
import Derived.Test.YtehnbalbpfmijaaGreatDoorKb6
import Derived.Test.YtehnbalbpfmijaaGreatDoorKb3
import Derived.Test.YtehnbalbpfmijaaGreatDoorKb10
import Derived.Test.YtehnbalbpfmijaaGreatDoorKb8
import Derived.Deep.RegionHeld3
import Derived.Deep.RegionLaw
import Derived.StillTailTactics
import Derived.Laws.EntriesVeiled
import Derived.Deep.Cut
import Derived.Deep.LoopGhost
import Derived.Deep.QuietTactic
import Derived.BigQuiet
namespace Go.Proofs.YtehnbalbpfmijaaGreatDoor
open Go.RowKit
set_option linter.unusedVariables false

/-- The first number from k on, among n, with p; -1 if there is none. -/
def fstZ (p : Nat → Bool) : Nat → Nat → Int
  | 0, _ => -1
  | n + 1, k => if p k then (k : Int) else fstZ p n (k + 1)
theorem fstZ_spec (p : Nat → Bool) : ∀ n k, (fstZ p n k = -1 ∧ ∀ i, k ≤ i → i < k + n → p i = false) ∨ ∃ j : Nat, fstZ p n k = (j : Int) ∧ k ≤ j ∧ j < k + n ∧ p j = true ∧ ∀ i, k ≤ i → i < j → p i = false
  | 0, k => .inl ⟨rfl, fun i h1 h2 => by omega⟩
  | n + 1, k => by
    rw [fstZ]
    by_cases h : p k = true
    · rw [if_pos h]; exact .inr ⟨k, rfl, Nat.le_refl _, by omega, h, fun i h1 h2 => by omega⟩
    · rw [if_neg h]
      have hf : p k = false := by simpa using h
      rcases fstZ_spec p n (k + 1) with ⟨h1, h2⟩ | ⟨j, h1, h2, h3, h4, h5⟩
      · refine .inl ⟨h1, fun i q1 q2 => ?_⟩
        by_cases e : i = k
        · rw [e]; exact hf
        · exact h2 i (by omega) (by omega)
      · refine .inr ⟨j, h1, by omega, by omega, h4, fun i q1 q2 => ?_⟩
        by_cases e : i = k
        · rw [e]; exact hf
        · exact h5 i (by omega) q2
def lkEq (ls : List Lk) (x y : Int) (d : Bool) (i : Nat) : Bool := lx ls i == x && (ly ls i == y && ld ls i == d)
end Go.Proofs.YtehnbalbpfmijaaGreatDoor

namespace Go.Proofs.YtehnbalbpfmijaaGreatDoor
open Go.RowKit
set_option linter.unusedVariables false

/-- The set of a list of cells. -/
def sofTo (ls : List (Int × Int)) : Nat → Nat
  | 0 => 0
  | k + 1 => sofTo ls k ||| 2 ^ cix (dx ls k).toNat (dy ls k).toNat
end Go.Proofs.YtehnbalbpfmijaaGreatDoor

namespace Go.Proofs.YtehnbalbpfmijaaGreatDoor
open Go.RowKit
set_option linter.unusedVariables false

def cEq (ls : List (Int × Int)) (x y : Int) (i : Nat) : Bool := dx ls i == x && dy ls i == y
def hasCL (ls : List (Int × Int)) (x y : Int) : Bool := decide (0 ≤ fstZ (cEq ls x y) ls.length 0)
theorem eql_cell (a b x y : Int) (W : World) : Sem.run Tryz.prog (binOp .eql 44 (.agg #[.int .i64 a, .int .i64 b]) (.agg #[.int .i64 x, .int .i64 y])) W = .ok (.bool (a == x && b == y)) W := by
  by_cases h1 : a = x
  · by_cases h2 : b = y
    · subst h1; subst h2
      rw [show (a == a && b == b) = true by simp]
      go_simp
    · rw [show (a == x && b == y) = false by simp [h2]]
      go_simp
  · rw [show (a == x && b == y) = false by simp [h1]]
    go_simp

/-- A domino lies over a cell. -/
def domAt (ls : List Lk) (x y : Int) (i : Nat) : Bool := domB (lx ls i) (ly ls i) (ld ls i) && ((lx ls i == x && ly ls i == y) || (sndX (lx ls i) (ld ls i) == x && sndY (ly ls i) (ld ls i) == y))
end Go.Proofs.YtehnbalbpfmijaaGreatDoor

namespace Go.Proofs.YtehnbalbpfmijaaGreatDoor
open Go.RowKit
set_option linter.unusedVariables false

/-- Two values in blocks of their own. -/
def Sep (u v : Value) : Prop := ∀ k, u.ownBlock = some k → v.ownBlock = some k → False
theorem Sep.symm {u v : Value} (h : Sep u v) : Sep v u := fun k h1 h2 => h k h2 h1
theorem Sep.push {α : Type} {E' : El α} {wr w' : World} {lo : Nat} {u u' v : Value} {ys : List α} (hD : Sep u v) (hB : OwnF E' wr lo v ys) (G : Grew wr w' u u') : OwnF E' w' lo v ys ∧ Sep u' v := by
  obtain ⟨hg, g, h1, h2, h3⟩ := G
  refine ⟨hB.kept hg fun k hk e => hD k e.symm hk, fun k hk hv => ?_⟩
  rw [h1] at hk
  simp only [Option.some.injEq] at hk
  subst hk
  rcases h2 with h2 | h2
  · exact hD g h2 hv
  · have := hB.lt g hv; omega
theorem Sep.pushS {α : Type} {E' : El α} {wr w' : World} {lo : Nat} {u u' v : Value} {ys : List α} (hD : Sep u v) (hB : OwnF E' wr lo v ys) (G : GrewS wr w' u u') : OwnF E' w' lo v ys ∧ Sep u' v := by
  obtain ⟨hg, h2⟩ := G
  refine ⟨hB.kept hg fun k hk e => hD k e.symm hk, fun k hk hv => ?_⟩
  rcases h2 with h2 | h2
  · rw [h2] at hk; exact hD k hk hv
  · rw [h2] at hk
    simp only [Option.some.injEq] at hk
    have := hB.lt k hv; omega
theorem Sep.fresh {α : Type} {E : El α} {w : World} {lo g n c : Nat} {u : Value} {ys : List α} (h : OwnF E w lo u ys) (hg : w.heap.size ≤ g) : Sep (.slice (some ⟨g, 0, none⟩) n c) u := fun k hk hv => by
  simp only [Value.ownBlock, Option.some.injEq] at hk
  have := (h.lt k hv).2; omega
theorem Sep.newer {α : Type} {E : El α} {w : World} {lo g n c : Nat} {u : Value} {ys : List α} (h : OwnF E w lo u ys) (hg : g < lo) : Sep (.slice (some ⟨g, 0, none⟩) n c) u := fun k hk hv => by
  simp only [Value.ownBlock, Option.some.injEq] at hk
  have := (h.lt k hv).1; omega

/-- The cells of a list that no domino lies over. -/
def uncB (ls : List Lk) (x y : Int) : Bool := decide (fstZ (domAt ls x y) ls.length 0 < 0)
def uncTo (ls : List Lk) (cs : List (Int × Int)) : Nat → List (Int × Int)
  | 0 => []
  | k + 1 => if uncB ls (dx cs k) (dy cs k) then uncTo ls cs k ++ [(dx cs k, dy cs k)] else uncTo ls cs k
theorem uncTo_len (ls : List Lk) (cs : List (Int × Int)) : ∀ k, (uncTo ls cs k).length ≤ k
  | 0 => Nat.le_refl _
  | k + 1 => by have := uncTo_len ls cs k; rw [uncTo]; split <;> simp <;> omega
def uncZ (R : Nat) (ls : List Lk) : List (Int × Int) := uncTo ls (cellsTo R 64) (cellsTo R 64).length

end Go.Proofs.YtehnbalbpfmijaaGreatDoor

namespace Go.Proofs.YtehnbalbpfmijaaGreatDoor
open Go.RowKit
set_option linter.unusedVariables false

theorem infoDomRow2 : (Tryz.prog.info? 24).map (fun i => (i.zero, i.size, i.bytes)) = some (some (.slice none 0 0), 1, 24) := by kernel_rfl
abbrev eDL : El Sl := elSl 24 47
theorem okDL : eDL.Ok Tryz.prog := okSl Tryz.underlying47 infoDomRow2

/-- Whether a domino may be laid next. -/
def okN (R : Nat) (hd : List Lk) (l : Lk) : Bool := domL l && (hasB R (sndX l.1 l.2.2).toNat (sndY l.2.1 l.2.2).toNat && uncB hd (sndX l.1 l.2.2) (sndY l.2.1 l.2.2))
/-- What l08List lists, if so many steps are enough. -/
def lstO (R : Nat) : Nat → List Lk → Nat → Option (List (List Lk))
  | 0, _, _ => none
  | f + 1, hd, most =>
    if (uncZ R hd).length = 0 then some [hd]
    else
      let x := dx (uncZ R hd) 0
      let y := dy (uncZ R hd) 0
      match (if decide (0 < most) && okN R hd (x, y, false) then lstO R f (hd ++ [(x, y, false)]) most else some []) with
      | none => none
      | some o1 => if decide (o1.length < most) && okN R hd (x, y, true) then (lstO R f (hd ++ [(x, y, true)]) (most - o1.length)).map (o1 ++ ·) else some o1
theorem lstO_steps {R f : Nat} {hd : List Lk} {most : Nat} {r : List (List Lk)} (h : lstO R (f + 1) hd most = some r) (h0 : (uncZ R hd).length ≠ 0) :
    ∃ xs : Nat → List (List Lk), xs 0 = [] ∧ xs 2 = r ∧ ∀ j, j < 2 → (((xs j).length < most ∧ okN R hd (dx (uncZ R hd) 0, dy (uncZ R hd) 0, decide (j = 1)) = true) ∧ ∃ sub, lstO R f (hd ++ [(dx (uncZ R hd) 0, dy (uncZ R hd) 0, decide (j = 1))]) (most - (xs j).length) = some sub ∧ xs (j + 1) = xs j ++ sub) ∨
      (¬ ((xs j).length < most ∧ okN R hd (dx (uncZ R hd) 0, dy (uncZ R hd) 0, decide (j = 1)) = true) ∧ xs (j + 1) = xs j) := by
  rw [lstO, if_neg h0] at h
  dsimp only at h
  split at h
  · simp at h
  · rename_i o1 ho1
    refine ⟨fun j => if j = 0 then [] else if j = 1 then o1 else r, rfl, rfl, fun j hj => ?_⟩
    rcases (show j = 0 ∨ j = 1 by omega) with rfl | rfl
    · simp only [if_true, Nat.reduceAdd, Nat.one_ne_zero, if_false, List.length_nil, Nat.sub_zero, List.nil_append, show decide ((0 : Nat) = 1) = false from rfl]
      split at ho1
      · rename_i hc
        rw [Bool.and_eq_true, decide_eq_true_eq] at hc
        exact .inl ⟨hc, o1, ho1, rfl⟩
      · rename_i hc
        rw [Bool.and_eq_true, decide_eq_true_eq] at hc
        simp only [Option.some.injEq] at ho1
        exact .inr ⟨hc, ho1.symm⟩
    · simp only [if_true, Nat.reduceAdd, Nat.one_ne_zero, if_false, show (2 : Nat) ≠ 0 from by omega, show (2 : Nat) ≠ 1 from by omega]
      split at h
      · rename_i hc
        rw [Bool.and_eq_true, decide_eq_true_eq] at hc
        obtain ⟨sub, h1, h2⟩ := Option.map_eq_some_iff.1 h
        exact .inl ⟨hc, sub, h1, h2.symm⟩
      · rename_i hc
        rw [Bool.and_eq_true, decide_eq_true_eq] at hc
        simp only [Option.some.injEq] at h
        exact .inr ⟨hc, h.symm⟩
theorem rdF_1 {α : Type} {E : El α} {w : World} {h : Nat} {cs : Array Value} {t : TypeId} {y : α} (hE : (E.f y).length = E.s) (hb : w.heap[h]? = some (.cells cs t (0, 0))) (hc : cs.toList = E.f y) : RdF E w w.heap.size (.slice (some ⟨h, 0, none⟩) 1 1) [y] := by
  refine ⟨_, _, rfl, Nat.le_refl _, by unfold maxLen; omega, fun j x hx => ?_⟩
  have hj : j = 0 := by have := (List.getElem?_eq_some_iff.1 hx).1; simp at this; exact this
  subst hj
  simp only [List.getElem?_cons_zero, Option.some.injEq] at hx
  subst hx
  refine ⟨_, rfl, lt_of_block hb, fun i u hu => ?_⟩
  rw [Nat.zero_mul, Nat.zero_add]
  exact World.news_of_block hb i u (by rw [hc]; exact hu)
theorem NRel.bigD {α : Type} {K : Kd α} {E : El Sl} {w wr : World} {base lo hi : Nat} {v : Value} {xs : List α} (h : NRel K E w base lo wr hi v xs) : Below w.heap.size w wr := h.choose_spec.1.2.1
theorem unc_some {R : Nat} {hd : List Lk} : (uncZ R hd).length ≤ 64 := by
  unfold uncZ
  refine Nat.le_trans (uncTo_len _ _ _) ?_
  rw [cellsTo_len]; exact cntB_le _ _

/-- What the last region reads. -/
abbrev LsS (w' : World) (a b : Nat) (u : Value) (x y : Int) (d : Bool) : Prop := w'.cell? ⟨a, 0, none⟩ = some u ∧ w'.cell? ⟨b, 0, none⟩ = some (.int .i64 x) ∧ w'.cell? ⟨b, 1, none⟩ = some (.int .i64 y) ∧ w'.cell? ⟨b, 2, none⟩ = some (.bool d)
theorem LsS.at {w' : World} {a b : Nat} {u : Value} {x y : Int} {d : Bool} {t t' : TypeId} (ha : w'.heap[a]? = some (.cells #[u] t (0, 0))) (hb : w'.heap[b]? = some (.cells #[.int .i64 x, .int .i64 y, .bool d] t' (0, 0))) : LsS w' a b u x y d :=
  ⟨by rw [blk_cell ha]; rfl, by rw [blk_cell hb]; rfl, by rw [blk_cell hb]; rfl, by rw [blk_cell hb]; rfl⟩
theorem LsS.of {w0 w' : World} {a b : Nat} {u : Value} {x y : Int} {d : Bool} {t t' : TypeId} (ha : w0.heap[a]? = some (.cells #[u] t (0, 0))) (hb : w0.heap[b]? = some (.cells #[.int .i64 x, .int .i64 y, .bool d] t' (0, 0))) (h : Below w0.heap.size w0 w') : LsS w' a b u x y d :=
  LsS.at (blk_below ha h) (blk_below hb h)
/-- A list that grows beside what was there: only its first block may have changed. -/
structure FrO (w1 wr : World) (g0 : Nat) (u : Value) : Prop where
  s : w1.heap.size ≤ wr.heap.size
  k : ∀ k, k < w1.heap.size → k ≠ g0 → wr.heap[k]? = w1.heap[k]?
  o : ∀ g, u.ownBlock = some g → g = g0 ∨ w1.heap.size ≤ g
theorem FrO.below {w1 wr w' : World} {g0 : Nat} {u : Value} (h : FrO w1 wr g0 u) (hb : Below wr.heap.size wr w') : FrO w1 w' g0 u :=
  ⟨Nat.le_trans h.s hb.size, fun k k1 k2 => (hb.block k (by have := h.s; omega)).trans (h.k k k1 k2), h.o⟩
theorem FrO.grew {w1 wr w' : World} {g0 : Nat} {u u' : Value} (h : FrO w1 wr g0 u) (G : GrewS wr w' u u') : FrO w1 w' g0 u' := by
  obtain ⟨g1, g2⟩ := G
  refine ⟨Nat.le_trans h.s g1.size, fun k k1 k2 => (g1.block k (by have := h.s; omega) fun e => ?_).trans (h.k k k1 k2), fun g hg => ?_⟩
  · rcases h.o k e.symm with e | e <;> omega
  · rcases g2 with g2 | g2
    · rw [g2] at hg; exact h.o g hg
    · rw [g2] at hg
      simp only [Option.some.injEq] at hg
      have := h.s; omega
theorem snd_nat {x y : Int} {d : Bool} (h : domB x y d = true) : ∃ p q : Nat, sndX x d = (p : Int) ∧ sndY y d = (q : Int) ∧ p ≤ 7 ∧ q ≤ 7 := by
  unfold domB at h
  rw [Bool.and_eq_true, spotB_iff, spotB_iff] at h
  obtain ⟨p, hp⟩ := Int.eq_ofNat_of_zero_le h.2.1.1
  obtain ⟨q, hq⟩ := Int.eq_ofNat_of_zero_le h.2.2.1
  exact ⟨p, q, hp, hq, by omega, by omega⟩

end Go.Proofs.YtehnbalbpfmijaaGreatDoor

namespace Go.Proofs.YtehnbalbpfmijaaGreatDoor
open Go.RowKit
set_option linter.unusedVariables false

set_option maxRecDepth 100000 in
set_option maxHeartbeats 4000000 in
theorem specCountTilings_yes (v : Value) (zs : List Int) (B : Nat) (w : World) (h : RdI w B v zs) (hB : B ≤ w.heap.size) (hok : regOkB zs = true) :
    Calls Tryz.prog 57 #[.agg #[v]] w fun e w' => e = .returned (.int .i64 (profZ (setZ zs))) ∧ Below w.heap.size w w' := by
  have HRO := Lib.hid (fun V (hV : Below w.heap.size w V) => specRegionOk_yes v zs B V (h.below (hV.mono hB)) (Nat.le_trans hB hV.size) hok)
  have HLC := Lib.hid (fun V (hV : Below w.heap.size w V) => l07Count_yes v zs B V (h.below (hV.mono hB)) (Nat.le_trans hB hV.size) hok)
  generalize profZ (setZ zs) = p at *
  obtain ⟨A, c, rfl, g1, g2, _⟩ := h
  unfold maxLen at g2
  obtain ⟨W, hW, k1, hb1⟩ := one_alloc w (.cells #[.slice A zs.length c] 35)
  have c0 : W.cell? ⟨w.heap.size, 0, none⟩ = some (.slice A zs.length c) := by rw [blk_cell k1]; rfl
  have HK1 := Lib.hid k1
  have HB1 := Lib.hid hb1
  clear hok
  go_enter Tryz.func57, Tryz.ntmps57
  go_upto_region 1 with (fail)
  rw [← hW]
  clear hW k1 hb1
  go_wp2_with fail
  refine (HRO.out W HB1.out).mono ?_
  rintro e w2 ⟨rfl, hb2⟩
  have HB2 := Lib.hid (HB1.out.trans (hb2.mono HB1.out.size))
  have HK2 := Lib.hid (blk_below HK1.out hb2)
  have c2 : w2.cell? ⟨w.heap.size, 0, none⟩ = some (.slice A zs.length c) := by rw [blk_cell HK2.out]; rfl
  clear hb2 c0
  go_wp2_with fail
  refine (HLC.out w2 HB2.out).mono ?_
  rintro e w3 ⟨rfl, hb3⟩
  have HB3 := Lib.hid (HB2.out.trans (hb3.mono HB2.out.size))
  clear hb3
  go_wp2_with fail
  go_ret
  exact ⟨rfl, HB3.out⟩

end Go.Proofs.YtehnbalbpfmijaaGreatDoor

namespace Go.Proofs.YtehnbalbpfmijaaGreatDoor
open Go.RowKit
set_option linter.unusedVariables false

def fcX (zs : List Int) : Nat := loB (setZ zs) 64 0 % 8
def fcY (zs : List Int) : Nat := loB (setZ zs) 64 0 / 8
structure FcOk (zs : List Int) : Prop where
  ok : regOkB zs = true
  c0 : 0 < (cellsTo (setZ zs) 64).length
  x : dx (cellsTo (setZ zs) 64) 0 = (fcX zs : Int)
  y : dy (cellsTo (setZ zs) 64) 0 = (fcY zs : Int)
  x6 : fcX zs ≤ 6
  y7 : fcY zs ≤ 7
  k1 : regOkB (offRow zs (fcX zs) (fcY zs)) = true
  k2 : regOkB (offDom zs (fcX zs) (fcY zs)) = true
  h1 : hasB (setZ zs) (fcX zs) (fcY zs) = true
  h2 : hasB (setZ zs) (fcX zs + 1) (fcY zs) = true
  pz : profZ (setZ (offDom zs (fcX zs) (fcY zs))) ≠ 0
/-- Whether the next n dominoes may lie across, with nothing left then. -/
def chkR : Nat → List Int → Bool
  | 0, zs => regOkB zs && decide ((cellsTo (setZ zs) 64).length = 0)
  | n + 1, zs => (regOkB zs && decide (0 < (cellsTo (setZ zs) 64).length) && (dx (cellsTo (setZ zs) 64) 0 == (fcX zs : Int)) && (dy (cellsTo (setZ zs) 64) 0 == (fcY zs : Int)) && decide (fcX zs ≤ 6) && decide (fcY zs ≤ 7) && regOkB (offRow zs (fcX zs) (fcY zs)) && regOkB (offDom zs (fcX zs) (fcY zs)) && hasB (setZ zs) (fcX zs) (fcY zs) && hasB (setZ zs) (fcX zs + 1) (fcY zs)) && (decide (nCell (setZ (offDom zs (fcX zs) (fcY zs))) 64 ≤ 37) && wayB (setZ (offDom zs (fcX zs) (fcY zs))) 64 0 0) && chkR n (offDom zs (fcX zs) (fcY zs))
theorem chkR_step {n : Nat} {zs : List Int} (h : chkR (n + 1) zs = true) : FcOk zs ∧ chkR n (offDom zs (fcX zs) (fcY zs)) = true := by
  rw [chkR, Bool.and_eq_true, Bool.and_eq_true] at h
  obtain ⟨⟨h1, h2⟩, h3⟩ := h
  simp only [Bool.and_eq_true, decide_eq_true_eq, beq_iff_eq] at h1
  obtain ⟨⟨⟨⟨⟨⟨⟨⟨⟨a, b⟩, c⟩, d⟩, e⟩, f⟩, g⟩, i⟩, j⟩, k⟩ := h1
  exact ⟨⟨a, b, c, d, e, f, g, i, j, k, way_some h2⟩, h3⟩
def fstL : Nat → List Int → List Lk
  | 0, _ => []
  | n + 1, zs => ((fcX zs : Int), (fcY zs : Int), false) :: fstL n (offDom zs (fcX zs) (fcY zs))
theorem fstL_len : ∀ n zs, (fstL n zs).length = n
  | 0, _ => rfl
  | n + 1, zs => by rw [fstL, List.length_cons, fstL_len n]
/-- A reading goes on where its block stays. -/
theorem RdI.kept {w w' : World} {B n c : Nat} {A : Option Addr} {zs : List Int} (h : RdI w B (.slice A n c) zs) (hk : ∀ ad, A = some ad → w'.heap[ad.block]? = w.heap[ad.block]?) : RdI w' B (.slice A n c) zs := by
  obtain ⟨A', c', he, h1, h2, h3⟩ := h
  simp only [Value.slice.injEq] at he
  obtain ⟨rfl, rfl, rfl⟩ := he
  refine ⟨_, _, rfl, h1, h2, fun hne => ?_⟩
  obtain ⟨ad, e, hb, hc⟩ := h3 hne
  refine ⟨ad, e, hb, fun j u hu => (World.cell?_of_block (a := ad.add j) ?_).trans (hc j u hu)⟩
  rw [addBlock]; exact hk ad e
/-- The rest, and what is laid. -/
structure FT (w wr : World) (lo p5 : Nat) (u : Value) (zs : List Int) (o : Value) (ds : List Lk) : Prop where
  blk : wr.heap[p5]? = some (.cells #[u] 35 (0, 0))
  rd : RdI wr wr.heap.size u zs
  acc : Acc elDomino w w.heap.size wr o ds
  np : ∀ g, o.ownBlock = some g → g ≠ p5
  sep : ∀ g, o.ownBlock = some g → u.ownBlock ≠ some g
  l5 : w.heap.size ≤ p5
  ub : ∀ g, u.ownBlock = some g → g < wr.heap.size
theorem own_slice {A : Option Addr} {n c : Nat} : (Value.slice A n c).ownBlock = A.map Addr.block := by cases A <;> rfl
theorem FT.below {w wr w1 : World} {lo p5 : Nat} {u o : Value} {zs : List Int} {ds : List Lk} (h : FT w wr lo p5 u zs o ds) (hb : Below wr.heap.size wr w1) : FT w w1 lo p5 u zs o ds :=
  ⟨blk_below h.blk hb, (h.rd.below hb).more hb.size, h.acc.below hb, h.np, h.sep, h.l5, fun g hg => Nat.lt_of_lt_of_le (h.ub g hg) hb.size⟩
/-- The rest is set anew. -/
theorem FT.rest {w wr : World} {lo p5 L : Nat} {u u' o : Value} {zs zs' : List Int} {ds : List Lk} (h : FT w wr lo p5 u zs o ds) (hu : OwnI wr L u' zs') (hL : ∀ g, o.ownBlock = some g → g < L) (h5 : p5 < L) : FT w (wr.setCell ⟨p5, 0, none⟩ u') lo p5 u' zs' o ds := by
  obtain ⟨A, c, rfl, _, _, _⟩ := hu.rd
  refine ⟨(blk_setCell h.blk _).trans (by simp), ?_, ⟨h.acc.1.same fun k hk => Below.heap_setCell _ _ _ _ (by show k ≠ p5; exact h.np k hk), h.acc.2.1.setCell h.l5 _, h.acc.2.2.1, by simpa using h.acc.2.2.2⟩, h.np, fun g hg e => ?_, h.l5, fun g hg => by simpa using (hu.lt g hg).2⟩
  · have := (hu.setCell (p := ⟨p5, 0, none⟩) h5 (.slice A zs'.length c)).rd
    simpa using this
  · have h1 := hL g hg
    have h2 := (hu.lt g e).1
    omega
theorem FT.push {w wr w2 : World} {lo p5 : Nat} {u o o' : Value} {zs : List Int} {ds ds' : List Lk} (h : FT w wr lo p5 u zs o ds) (HA : Acc elDomino w w.heap.size w2 o' ds') (HG : Grew wr w2 o o') : FT w w2 lo p5 u zs o' ds' := by
  obtain ⟨g1, g, g2, g3, g4⟩ := HG
  have h5 := lt_of_block h.blk
  obtain ⟨A, c, rfl, q1, q2, q3⟩ := id h.rd
  have hb : ∀ k, k < wr.heap.size → o.ownBlock ≠ some k → w2.heap[k]? = wr.heap[k]? := fun k k1 k2 => g1.block k k1 fun e => k2 e.symm
  refine ⟨(hb p5 h5 fun e => h.np p5 e rfl).trans h.blk, ?_, HA, fun k hk => ?_, fun k hk e => ?_, h.l5, fun g hg => Nat.lt_of_lt_of_le (h.ub g hg) g1.size⟩
  · refine (h.rd.kept fun ad had => ?_).more g1.size
    have ho : (Value.slice A zs.length c).ownBlock = some ad.block := by rw [own_slice, had]; rfl
    exact hb _ (h.ub _ ho) fun e => h.sep _ e ho
  · rw [g2] at hk
    obtain rfl := Option.some.inj hk
    rcases g3 with g3 | g3
    · exact h.np g g3
    · omega
  · rw [g2] at hk
    obtain rfl := Option.some.inj hk
    rcases g3 with g3 | g3
    · exact h.sep g g3 e
    · have := h.ub g e; omega

set_option maxRecDepth 100000 in
set_option maxHeartbeats 2000000 in
theorem FirstTiling_yes (v : Value) (zs : List Int) (B : Nat) (w : World) (h : RdI w B v zs) (hB : B ≤ w.heap.size) (hz : zs ≠ []) (n : Nat) (hn : n ≤ 32) (hok : regOkB zs = true) (hp : profZ (setZ zs) ≠ 0) (hc : chkR n zs = true) :
    Calls Tryz.prog 31 #[.agg #[v]] w fun e w' => ∃ u, e = .returned (.tuple #[u, .bool true]) ∧ OwnF elDomino w' w.heap.size u (fstL n zs) ∧ Below w.heap.size w w' := by
  have HCT := Lib.hid (fun V (hV : Below w.heap.size w V) => specCountTilings_yes v zs B V (h.below (hV.mono hB)) (Nat.le_trans hB hV.size) hok)
  have hpz : (profZ (setZ zs) == 0) = false := by rw [beq_eq_false_iff_ne]; exact hp
  generalize profZ (setZ zs) = p at *
  have HV := Lib.hid (h.more hB)
  have HUB : Hid (∀ g, v.ownBlock = some g → g < w.heap.size) := by
    obtain ⟨A, c, rfl, _, _, h3⟩ := id h
    intro g hg
    obtain ⟨ad, e, hb, _⟩ := h3 (by simpa using hz)
    rw [own_slice, e] at hg
    simp only [Option.map_some, Option.some.injEq] at hg
    omega
  obtain ⟨TT, HTT⟩ : ∃ TT, Hid (fstL n zs = TT) := ⟨_, rfl⟩
  have HC0 := Lib.hid hc
  have HTL : Hid (TT.length = n) := by unfold Hid; rw [← HTT.out]; exact fstL_len n zs
  rw [HTT.out]
  obtain ⟨A, c, rfl, g1, g2, _⟩ := h
  unfold maxLen at g2
  obtain ⟨W, hW, k0, k1, hb0⟩ := two_alloc w (.cells #[.slice A zs.length c] 35) (.cells #[] 51)
  have c0 : W.cell? ⟨w.heap.size, 0, none⟩ = some (.slice A zs.length c) := by rw [blk_cell k0]; rfl
  have HK0 := Lib.hid k0
  have HB0 := Lib.hid hb0
  have HA0 : Hid (Acc elDomino w w.heap.size W (.slice (some ⟨w.heap.size + 1, 0, none⟩) 0 0) []) := ⟨⟨by simp, .inr ⟨_, 0, #[], rfl, Nat.le_succ _, k1, Nat.le_refl _, by simp [maxLen], by simp, by simp⟩⟩, hb0, Nat.le_refl _, hb0.size⟩
  have HWS : Hid (W.heap.size = w.heap.size + 2) := by unfold Hid; rw [hW]; simp
  clear hp hc hok hz k1
  go_enter Tryz.func31, Tryz.ntmps31
  go_upto_region 2 with (fail)
  rw [← hW]
  clear hW k0 hb0
  go_wp2_with fail
  refine (HCT.out W HB0.out).mono ?_
  rintro e w1 ⟨rfl, hb1⟩
  have HB1 := Lib.hid (HB0.out.trans (hb1.mono HB0.out.size))
  have HA1 := Lib.hid (HA0.out.below hb1)
  have HK1 := Lib.hid (blk_below HK0.out hb1)
  have hs1 := hb1.size
  have c1 : w1.cell? ⟨w.heap.size, 0, none⟩ = some (.slice A zs.length c) := by rw [blk_cell HK1.out]; rfl
  obtain ⟨V1, hV1, k5, hbv⟩ := one_alloc w1 (.cells #[.slice A zs.length c] 35)
  have HBV := Lib.hid (HB1.out.trans (hbv.mono HB1.out.size))
  have HFT : Hid (FT w V1 0 w1.heap.size (.slice A zs.length c) zs (.slice (some ⟨w.heap.size + 1, 0, none⟩) 0 0) []) := by
    have hws := HWS.out
    refine ⟨k5, (HV.out.below HBV.out).more HBV.out.size, HA1.out.below hbv, fun g hg => ?_, fun g hg e => ?_, by omega, fun g hg => Nat.lt_of_lt_of_le (HUB.out g hg) HBV.out.size⟩
    · simp only [Value.ownBlock, Option.some.injEq] at hg; omega
    · have := HUB.out g e
      simp only [Value.ownBlock, Option.some.injEq] at hg; omega
  have HV1 := Lib.hid hV1
  clear hb1 c0 hV1 k5 hbv hs1
  go_wp2_with fail
  rw [← HV1.out]
  clear c1 HV1
  go_loopg [4] n (fun gk o wr => ∃ (u x : Value) (ys : List Int) (ds : List Lk), x = o ∧ Hid (chkR gk ys = true) ∧ Hid (FT w wr 0 w1.heap.size u ys x ds) ∧ Hid (ds ++ fstL gk ys = TT))
  case atStart => exact ⟨_, _, zs, [], rfl, HC0, HFT, HTT.out⟩
  case round =>
    obtain ⟨u, x, ys, ds, rfl, HCK, HF, HD⟩ := hrel
    obtain ⟨Au, cu, hu, r1, r2, _⟩ := id HF.out.rd
    subst hu
    unfold maxLen at r2
    have m5 := cell_of_one HF.out.blk
    have hokr : regOkB ys = true := by
      cases gk with
      | zero => have := HCK.out; rw [chkR, Bool.and_eq_true] at this; exact this.1
      | succ k => exact (chkR_step HCK.out).1.ok
    have HCC := Lib.hid (CountCells_yes _ ys _ wr HF.out.rd (Nat.le_refl _) hokr)
    have HCL := Lib.hid (cellsTo_len (setZ ys) 64)
    obtain ⟨A9, c9, hv9, q9, q10, _⟩ := HF.out.acc.1.rd okDomino
    subst hv9
    unfold maxLen at q10
    cases gk with
    | zero =>
      have h0 : (cellsTo (setZ ys) 64).length = 0 := by have := HCK.out; rw [chkR, Bool.and_eq_true, decide_eq_true_eq] at this; exact this.2
      have hn0 : cntB (setZ ys) 64 = 0 := by rw [← HCL.out]; exact h0
      rw [hn0] at HCC
      have HDE : Hid (ds = TT) := by have := HD.out; rw [fstL, List.append_nil] at this; exact this
      clear h0 hn0 hokr
      go_wp2_with fail
      refine HCC.out.mono ?_
      rintro e w2 ⟨rfl, hb2⟩
      have HF2 := Lib.hid (HF.out.below hb2)
      clear hb2 HCC m5
      go_wp2_with fail
      refine bodyPost_ret (v := .tuple #[.slice A9 ds.length c9, .bool true]) (by simp [results, Tryz.results31, go_sem]) rfl ⟨_, rfl, ?_, HF2.out.acc.2.1⟩
      rw [← HDE.out]
      exact HF2.out.acc.1
    | succ gk =>
      obtain ⟨hfc, hnx⟩ := chkR_step HCK.out
      have HNX := Lib.hid hnx
      obtain ⟨_, k2, k3, k4, k5, k6, k7, k8, k9, k10, k11⟩ := hfc
      clear HCK
      have hN : decide (0 < cntB (setZ ys) 64) = true := by rw [decide_eq_true_eq, ← HCL.out]; exact k2
      have HDS : Hid ((ds ++ [((fcX ys : Int), (fcY ys : Int), false)]) ++ fstL gk (offDom ys (fcX ys) (fcY ys)) = TT) := by have := HD.out; rw [fstL] at this; unfold Hid; rw [← this]; simp
      generalize fcX ys = fx at *
      generalize fcY ys = fy at *
      have hdl : ds.length ≤ 32 := by have h1 := HTL.out; have h2 := HD.out; rw [← h2, List.length_append, fstL_len] at h1; omega
      have HCO := Lib.hid (fun V (hV : Below wr.heap.size wr V) => CellsOf_list _ ys _ V (HF.out.rd.below hV) hV.size hokr)
      have HCW := Lib.hid (fun V (hV : Below wr.heap.size wr V) => CountWith_yes _ ys _ V (HF.out.rd.below hV) hV.size hokr (fx) (fy) k5 k6 k7 k8 k9 k10)
      have hdm : domB (fx : Int) (fy : Int) false = true := (domB_iff _ _ _).2 ⟨by omega, by simp; omega⟩
      have HCU := Lib.hid (fun V => CellsUnder_yes (fx : Int) (fy : Int) false V hdm)
      have hsx : sndX (fx : Int) false = ((fx + 1 : Nat) : Int) := by unfold sndX; simp; unfold wrap64; omega
      have hsy : sndY (fy : Int) false = (fy : Int) := by unfold sndY; simp
      rw [hsx, hsy] at HCU
      have HW1 := Lib.hid (fun V (hV : Below wr.heap.size wr V) => WithCell_off _ ys _ V (HF.out.rd.below hV) hV.size hokr fx fy (Nat.le_succ_of_le k5) k6)
      have HW2 := Lib.hid (fun u V (hu : RdI V V.heap.size u (offRow ys (fx) (fy))) => WithCell_off u (offRow ys (fx) (fy)) V.heap.size V hu (Nat.le_refl _) k7 (fx + 1) fy (Nat.succ_le_succ k5) k6)
      have HOD : Hid (offRow (offRow ys (fx) (fy)) (fx + 1) (fy) = offDom ys (fx) (fy)) := rfl
      rw [HOD.out] at HW2
      have hpf : (profZ (setZ (offDom ys (fx) (fy))) == 0) = false := by rw [beq_eq_false_iff_ne]; exact k11
      generalize profZ (setZ (offDom ys (fx) (fy))) = pf at *
      generalize offDom ys (fx) (fy) = zs2 at *
      generalize offRow ys (fx) (fy) = zs1 at *
      generalize cellsTo (setZ ys) 64 = cs at *
      generalize cntB (setZ ys) 64 = N at *
      obtain ⟨X, HX⟩ : ∃ X : Int, Hid ((fx : Int) = X) := ⟨_, rfl⟩
      obtain ⟨X1, HX1⟩ : ∃ X1 : Int, Hid (((fx + 1 : Nat) : Int) = X1) := ⟨_, rfl⟩
      obtain ⟨Y, HY⟩ : ∃ Y : Int, Hid ((fy : Int) = Y) := ⟨_, rfl⟩
      rw [HX.out, HY.out] at HDS HCW HW1
      rw [HX.out, HY.out, HX1.out] at HCU
      rw [HX1.out, HY.out] at HW2
      rw [HX.out] at k3
      rw [HY.out] at k4
      have HC3 := Lib.hid k3; have HC4 := Lib.hid k4
      clear k3 k4 k5 k6 k7 k8 k9 k10 k11 hdm hsx hsy hokr hnx HOD HX HX1 HY HD HCL
      go_wp2_with fail
      refine HCC.out.mono ?_
      rintro e w2 ⟨rfl, hb2⟩
      have HB2 : Hid (Below wr.heap.size wr w2) := hb2
      have m5 : w2.cell? ⟨w1.heap.size, 0, none⟩ = some (.slice Au ys.length cu) := cell_of_one (blk_below HF.out.blk HB2.out)
      clear hb2 HCC
      go_wp2_with fail
      refine (HCO.out w2 HB2.out).mono ?_
      rintro e w3 ⟨u3, rfl, ho3, hb3⟩
      have HB3 := Lib.hid (HB2.out.trans (hb3.mono HB2.out.size))
      obtain ⟨A3, c3, hu3, q3, q4, G9⟩ := RdD.of (E := elCell) rfl (fun _ => rfl) (ho3.rd okCell)
      subst hu3
      unfold maxLen at q4
      obtain ⟨ad, rfl, hbl, hcx, hcy⟩ := G9.out 0 k2
      rw [Nat.zero_mul, Addr.add_zero'] at hcx hcy
      rw [HC3.out] at hcx
      rw [HC4.out] at hcy
      have k2' : (0 : Int) < (cs.length : Int) := by omega
      obtain ⟨V4, hV4, p4, hb4⟩ := one_alloc w3 (.cells #[.int .i64 X, .int .i64 Y] 44)
      have n0 : V4.cell? ⟨w3.heap.size, 0, none⟩ = some (.int .i64 X) := by rw [blk_cell p4]; rfl
      have n1 : V4.cell? ⟨w3.heap.size, 1, none⟩ = some (.int .i64 Y) := by rw [blk_cell p4]; rfl
      have HB4 := Lib.hid (HB3.out.trans (hb4.mono HB3.out.size))
      have hvs : V4.heap.size = w3.heap.size + 1 := by rw [hV4]; simp
      obtain ⟨V5, hV5, p5, hb5⟩ := one_alloc V4 (triO X Y false 51)
      have HB5 := Lib.hid (HB4.out.trans (hb5.mono HB4.out.size))
      rw [hvs] at p5
      obtain ⟨t0, t1, t2⟩ := tri_cells p5
      have m55 : V5.cell? ⟨w1.heap.size, 0, none⟩ = some (.slice Au ys.length cu) := cell_of_one (blk_below HF.out.blk HB5.out)
      have HP5 := Lib.hid p5
      have HV4 := Lib.hid hV4; have HV5 := Lib.hid hV5
      rw [hV5, hV4] at t0 t1 t2 m55
      rw [hV4] at n0 n1
      have HVS := Lib.hid hvs
      clear hvs
      clear hV4 hV5 p4 p5 hb3 hb4 hb5 m5
      go_wp2_with fail
      rw [← HV4.out, ← HV5.out]
      clear n0 n1 t0 t1 t2 m55 HV4 HV5 hcx hcy hbl
      refine (HCW.out V5 HB5.out).mono ?_
      rintro e w6 ⟨rfl, hb6⟩
      have HB6 := Lib.hid (HB5.out.trans (hb6.mono HB5.out.size))
      have HP6 := Lib.hid (blk_below HP5.out hb6)
      obtain ⟨t0, t1, t2⟩ := tri_cells HP6.out
      clear hb6
      go_wp2_with fail
      refine (HCU.out w6).mono ?_
      rintro e w7 ⟨rfl, hb7⟩
      have HB7 := Lib.hid (HB6.out.trans (hb7.mono HB6.out.size))
      have HP7 := Lib.hid (blk_below HP6.out hb7)
      obtain ⟨V7, hV7, pa, pb, hbv7⟩ := two_alloc w7 (.cells #[.int .i64 X, .int .i64 Y] 44) (.cells #[.int .i64 X1, .int .i64 Y] 44)
      have HBV7 := Lib.hid (HB7.out.trans (hbv7.mono HB7.out.size))
      have HPV := Lib.hid (blk_below HP7.out hbv7)
      have HPB := Lib.hid pb
      have n0 : V7.cell? ⟨w7.heap.size, 0, none⟩ = some (.int .i64 X) := by rw [blk_cell pa]; rfl
      have n1 : V7.cell? ⟨w7.heap.size, 1, none⟩ = some (.int .i64 Y) := by rw [blk_cell pa]; rfl
      have m5 : V7.cell? ⟨w1.heap.size, 0, none⟩ = some (.slice Au ys.length cu) := cell_of_one (blk_below HF.out.blk HBV7.out)
      have HV7 := Lib.hid hV7
      rw [hV7] at n0 n1 m5
      clear hV7 pa pb hbv7 hb7 t0 t1 t2
      go_wp2_with fail
      rw [← HV7.out]
      clear n0 n1 m5 HV7
      refine (HW1.out V7 HBV7.out).mono ?_
      rintro e w8 ⟨u8, rfl, ho8, hb8⟩
      have HB8 := Lib.hid (HBV7.out.trans (hb8.mono HBV7.out.size))
      have HF8 := Lib.hid (HF.out.below HB8.out)
      have h5lt := lt_of_block HF.out.blk
      have hVs := HBV7.out.size
      have HF9 := Lib.hid (HF8.out.rest ho8 (fun g hg => by have := (HF.out.acc.1.lt g hg).2; omega) (by omega))
      obtain ⟨W9, HW9⟩ : ∃ W9, Hid (W9 = w8.setCell ⟨w1.heap.size, 0, none⟩ u8) := ⟨_, rfl⟩
      rw [← HW9.out] at HF9
      have f5 := free_of_one HF8.out.blk
      have c5 := cell_of_one HF8.out.blk
      have HPB8 := Lib.hid (blk_below HPB.out hb8)
      have HPV8 := Lib.hid (blk_below HPV.out hb8)
      have hbn : w7.heap.size + 1 ≠ w1.heap.size := by have := HB7.out.size; omega
      have hpn : w3.heap.size + 1 ≠ w1.heap.size := by have := HB3.out.size; omega
      have HPB9 : Hid (W9.heap[w7.heap.size + 1]? = some (.cells #[.int .i64 X1, .int .i64 Y] 44 (0, 0))) := by rw [HW9.out]; exact (Below.heap_setCell _ _ _ _ (by show w7.heap.size + 1 ≠ w1.heap.size; exact hbn)).trans HPB8.out
      have HPV9 : Hid (W9.heap[w3.heap.size + 1]? = some (triO X Y false 51)) := by rw [HW9.out]; exact (Below.heap_setCell _ _ _ _ (by show w3.heap.size + 1 ≠ w1.heap.size; exact hpn)).trans HPV8.out
      obtain ⟨A8, c8, rfl, _, _, _⟩ := ho8.rd
      have n0 : W9.cell? ⟨w7.heap.size + 1, 0, none⟩ = some (.int .i64 X1) := by rw [blk_cell HPB9.out]; rfl
      have n1 : W9.cell? ⟨w7.heap.size + 1, 1, none⟩ = some (.int .i64 Y) := by rw [blk_cell HPB9.out]; rfl
      have m5 : W9.cell? ⟨w1.heap.size, 0, none⟩ = some (.slice A8 zs1.length c8) := cell_of_one HF9.out.blk
      rw [HW9.out] at n0 n1 m5
      clear ho8 hb8
      go_wp2_with fail
      rw [← HW9.out]
      clear n0 n1 m5 HW9 f5 c5
      refine (HW2.out _ W9 HF9.out.rd).mono ?_
      rintro e w10 ⟨u10, rfl, ho10, hb10⟩
      have HF10 := Lib.hid (HF9.out.below hb10)
      have HF11 := Lib.hid (HF10.out.rest ho10 (fun g hg => (HF9.out.acc.1.lt g hg).2) (lt_of_block HF9.out.blk))
      obtain ⟨W11, HW11⟩ : ∃ W11, Hid (W11 = w10.setCell ⟨w1.heap.size, 0, none⟩ u10) := ⟨_, rfl⟩
      rw [← HW11.out] at HF11
      have f5 := free_of_one HF10.out.blk
      have c5 := cell_of_one HF10.out.blk
      have HPV11 : Hid (W11.heap[w3.heap.size + 1]? = some (triO X Y false 51)) := by rw [HW11.out]; exact (Below.heap_setCell _ _ _ _ (by show w3.heap.size + 1 ≠ w1.heap.size; exact hpn)).trans (blk_below HPV9.out hb10)
      obtain ⟨t0, t1, t2⟩ := tri_cells HPV11.out
      obtain ⟨A10, c10, rfl, _, _, _⟩ := ho10.rd
      have HF11b := HF11
      rw [HW11.out] at t0 t1 t2 HF11b
      clear ho10 hb10
      go_wp2_with (at_builtin; refine wpList_push okDomino rfl _ _ rfl HF11b.out.acc rfl (X, Y, false) _ rfl w10.heap.size rfl (by simp) (by omega) ?_; intro v12 w12 HA12 HG12)
      have HF12 := Lib.hid (HF11b.out.push HA12.out HG12.out)
      go_roundg gk
      case measure => omega
      case rel => exact ⟨_, _, _, _, rfl, HNX, HF12, HDS⟩
end Go.Proofs.YtehnbalbpfmijaaGreatDoor

namespace Go.Proofs.YtehnbalbpfmijaaGreatDoor
open Go.RowKit
set_option linter.unusedVariables false

def hasL (ls : List Lk) (l : Lk) : Bool := decide (0 ≤ fstZ (lkEq ls l.1 l.2.1 l.2.2) ls.length 0)
set_option maxRecDepth 100000 in
set_option maxHeartbeats 2000000 in
theorem l11Has_any (v : Value) (ls : List Lk) (x y : Int) (d : Bool) (B : Nat) (w : World) (h : RdF elDomino w B v ls) (hB : B ≤ w.heap.size) :
    Calls Tryz.prog 79 #[v, triV x y d] w fun e w' => e = .returned (.int .i64 (fstZ (lkEq ls x y d) ls.length 0)) ∧ Below w.heap.size w w' := by
  obtain ⟨A, c, rfl, g1, g2, G3⟩ := RdT.of (E := elDomino) rfl (fun _ => rfl) h
  unfold maxLen at g2
  clear h
  go_enter Tryz.func79, Tryz.ntmps79
  go_wp2_with fail
  obtain ⟨W, hW, k0, hb0⟩ := one_alloc w (.cells #[.int .i64 x, .int .i64 y, .bool d] 51)
  rw [← hW]
  have HK := Lib.hid k0
  have HB0 := Lib.hid hb0
  have hs0 : w.heap.size < W.heap.size := lt_of_block k0
  clear hW k0 hb0
  go_loopw [5] (fun s wr => ∃ k : Nat, k ≤ ls.length ∧ s = .int .i64 k ∧ Hid (Below W.heap.size W wr) ∧ Hid (fstZ (lkEq ls x y d) ls.length 0 = fstZ (lkEq ls x y d) (ls.length - k) k)) (fun s _ => ls.length - (intOf s).toNat)
  case atStart => exact ⟨0, Nat.zero_le _, rfl, Below.refl _ _, rfl⟩
  case round =>
    obtain ⟨k, hk, rfl, HB, HF⟩ := hrel
    by_cases hlt : k < ls.length
    · obtain ⟨ad, rfl, had, hx, hy, hz⟩ := G3.out k hlt
      have hbw := HB0.out.trans (HB.out.mono HB0.out.size)
      have hx' := (hbw.cell (p := ad.add (k * 3)) (by rw [addBlock]; omega)).trans hx
      have hy' := (hbw.cell (p := ⟨(ad.add (k * 3)).block, (ad.add (k * 3)).off + 1, none⟩) (by show (ad.add (k * 3)).block < _; rw [addBlock]; omega)).trans hy
      have hz' := (hbw.cell (p := ⟨(ad.add (k * 3)).block, (ad.add (k * 3)).off + 2, none⟩) (by show (ad.add (k * 3)).block < _; rw [addBlock]; omega)).trans hz
      have hblk := (HB.out.block w.heap.size hs0).trans HK.out
      have ht : decide ((k : Int) < (ls.length : Int)) = true := by simp only [decide_eq_true_eq]; omega
      have hk0 : (0 : Int) ≤ (k : Int) := by omega
      have hk1 : (k : Int) < (ls.length : Int) := by omega
      obtain ⟨b0, b1, b2⟩ := tri_cells (t := 51) hblk
      have HQ := Lib.hid hbw
      clear hbw hx hy hz hblk
      have HS : Hid (fstZ (lkEq ls x y d) (ls.length - k) k = if lkEq ls x y d k then (k : Int) else fstZ (lkEq ls x y d) (ls.length - (k + 1)) (k + 1)) := by
        unfold Hid; rw [show ls.length - k = (ls.length - (k + 1)) + 1 by omega, fstZ]
      have HE : Hid (lkEq ls x y d k = (lx ls k == x && (ly ls k == y && ld ls k == d))) := rfl
      generalize lkEq ls x y d k = r at *
      generalize lx ls k = p1 at *
      generalize ly ls k = p2 at *
      generalize ld ls k = p3 at *
      cases r
      · have HS2 : Hid (fstZ (lkEq ls x y d) ls.length 0 = fstZ (lkEq ls x y d) (ls.length - (k + 1)) (k + 1)) := HF.out.trans HS.out
        have hsq : ∀ W : World, Sem.run Tryz.prog (binOp .eql 51 (.agg #[.int .i64 p1, .int .i64 p2, .bool p3]) (.agg #[.int .i64 x, .int .i64 y, .bool d])) W = .ok (.bool false) W := fun W => by
          have h9 := HE.out
          by_cases h1 : p1 = x
          · by_cases h2 : p2 = y
            · have h3 : ¬ p3 = d := fun h => by rw [h1, h2, h] at h9; simp at h9
              go_simp
            · go_simp
          · go_simp
        clear HS HF HE
        go_wp2_with fail
        go_quiet (fail)
        have HB9 := Lib.hid (HB.out.trans (Drawn.below ⟨nq, rfl⟩ _))
        go_wp2_with fail
        go_roundw
        case rel => exact ⟨k + 1, by omega, by go_num, HB9, HS2⟩
        case measure => simp [intOf]; omega
      · have he := HE.out.symm
        simp only [Bool.and_eq_true, beq_iff_eq] at he
        obtain ⟨rfl, rfl, rfl⟩ := he
        have HS2 : Hid (fstZ (lkEq ls p1 p2 p3) ls.length 0 = (k : Int)) := HF.out.trans HS.out
        clear HS HF
        go_wp2_with fail
        go_quiet (fail)
        have HQ9 := Lib.hid (HQ.out.trans (Drawn.below ⟨nq, rfl⟩ _))
        go_wp2_with fail
        go_ret
        exact ⟨ret_int HS2.out.symm, HQ9.out⟩
    · have HF2 : Hid (fstZ (lkEq ls x y d) ls.length 0 = -1) := by unfold Hid; rw [HF.out, show ls.length - k = 0 by omega]; rfl
      have ht : decide ((k : Int) < (ls.length : Int)) = false := by simp only [decide_eq_false_iff_not]; omega
      go_wp2_with fail
      go_ret
      exact ⟨ret_int HF2.out.symm, HB0.out.trans (HB.out.mono HB0.out.size)⟩

end Go.Proofs.YtehnbalbpfmijaaGreatDoor

namespace Go.Proofs.YtehnbalbpfmijaaGreatDoor
open Go.RowKit
set_option linter.unusedVariables false

theorem addOff (g a n : Nat) : (⟨g, a, none⟩ : Addr).add n = ⟨g, a + n, none⟩ := by unfold Addr.add; split <;> simp_all
section
variable {α : Type} {E : El α}
theorem RdF.take {w : World} {B c : Nat} {A : Option Addr} {xs : List α} (h : RdF E w B (.slice A xs.length c) xs) {j : Nat} (hj : j ≤ xs.length) : RdF E w B (.slice A j c) (xs.take j) := by
  obtain ⟨A', c', hv, h1, h2, h3⟩ := h
  obtain ⟨rfl, rfl⟩ : A = A' ∧ c = c' := by simp at hv; exact hv
  have hl : (xs.take j).length = j := by simp; omega
  refine ⟨A, c, by rw [hl], by omega, h2, fun i x hx => h3 i x ?_⟩
  rw [List.getElem?_take] at hx
  split at hx
  · exact hx
  · simp at hx
theorem RdF.drop {w : World} {B c g : Nat} {xs : List α} (h : RdF E w B (.slice (some ⟨g, 0, none⟩) xs.length c) xs) {j : Nat} (hj : j ≤ xs.length) : RdF E w B (.slice (if c = j then some ⟨g, 0, none⟩ else some ⟨g, j * E.s, none⟩) (xs.length - j) (c - j)) (xs.drop j) := by
  obtain ⟨A', c', hv, h1, h2, h3⟩ := h
  obtain ⟨rfl, rfl⟩ : some (⟨g, 0, none⟩ : Addr) = A' ∧ c = c' := by simp at hv; exact ⟨hv.1, hv.2⟩
  have hl : (xs.drop j).length = xs.length - j := by simp
  refine ⟨_, c - j, by rw [hl], by omega, by omega, fun i x hx => ?_⟩
  have hi := (List.getElem?_eq_some_iff.1 hx).1
  rw [hl] at hi
  rw [List.getElem?_drop] at hx
  obtain ⟨ad, e, hb, hc⟩ := h3 (j + i) x hx
  obtain rfl := Option.some.inj e
  refine ⟨⟨g, j * E.s, none⟩, by rw [if_neg (by omega)], hb, fun q u hu => ?_⟩
  have := hc q u hu
  rw [addOff] at this
  rw [addOff]
  rw [show 0 + ((j + i) * E.s + q) = j * E.s + (i * E.s + q) by rw [Nat.add_mul]; omega] at this
  exact this
theorem RdF.void {w : World} {B c n : Nat} {A : Option Addr} (hn : n = 0) (hc : c ≤ maxLen) : RdF E w B (.slice A n c) ([] : List α) := ⟨A, c, by rw [hn]; rfl, Nat.zero_le _, hc, fun j x hx => by simp at hx⟩
end
/-- Two elements of rows, in a world that grows. -/
abbrev TwoE (V w' : World) (p : Addr) (x y : Int) (d : Bool) (q : Addr) (x' y' : Int) (d' : Bool) : Prop := w'.cell? p = some (.int .i64 x) ∧ w'.cell? ⟨p.block, p.off + 1, none⟩ = some (.int .i64 y) ∧ w'.cell? ⟨p.block, p.off + 2, none⟩ = some (.bool d) ∧
  w'.cell? q = some (.int .i64 x') ∧ w'.cell? ⟨q.block, q.off + 1, none⟩ = some (.int .i64 y') ∧ w'.cell? ⟨q.block, q.off + 2, none⟩ = some (.bool d') ∧ V.heap.size ≤ w'.heap.size ∧ Below V.heap.size V w'
theorem TwoE.keep {V W0 w1 : World} {p : Addr} {x y : Int} {d : Bool} {q : Addr} {x' y' : Int} {d' : Bool} (hb : Below W0.heap.size W0 w1) (ha : p.block < V.heap.size) (hp : q.block < V.heap.size) (h : TwoE V W0 p x y d q x' y' d') : TwoE V w1 p x y d q x' y' d' := by
  obtain ⟨h1, h2, h3, h4, h5, h6, h7, h8⟩ := h
  exact ⟨(hb.cell (by omega)).trans h1, (hb.cell (by simp; omega)).trans h2, (hb.cell (by simp; omega)).trans h3, (hb.cell (by omega)).trans h4, (hb.cell (by simp; omega)).trans h5, (hb.cell (by simp; omega)).trans h6, Nat.le_trans h7 hb.size, h8.trans (hb.mono h7)⟩
theorem TwoE.drew {V W0 : World} {p : Addr} {x y : Int} {d : Bool} {q : Addr} {x' y' : Int} {d' : Bool} (h : TwoE V W0 p x y d q x' y' d') : TwoE V W0.drew p x y d q x' y' d' := ⟨h.1, h.2.1, h.2.2.1, h.2.2.2.1, h.2.2.2.2.1, h.2.2.2.2.2.1, h.2.2.2.2.2.2.1, h.2.2.2.2.2.2.2.drew⟩

set_option maxRecDepth 100000 in
set_option maxHeartbeats 4000000 in
theorem specSortDominoes_any (v : Value) (ls : List Lk) (B : Nat) (w : World) (h : RdF elDomino w B v ls) (hB : B ≤ w.heap.size) :
    Calls Tryz.prog 62 #[v] w fun e w' => ∃ u, e = .returned u ∧ OwnF elDomino w' w.heap.size u (sortI ls ls.length) ∧ Below w.heap.size w w' := by
  rw [(sort_same ls ls.length).1]
  obtain ⟨A, c, rfl, g1, g2, G3⟩ := RdT.of (E := elDomino) rfl (fun _ => rfl) h
  unfold maxLen at g2
  clear h
  have HA0 : Hid (Acc elDomino w w.heap.size (w.alloc (.cells #[] 51)) (.slice (some ⟨w.heap.size, 0, none⟩) 0 0) []) := Acc.start w
  have HSS := Lib.hid (sort_same ls)
  have HSI : Hid (∀ k, sortS ls (k + 1) = if domL (dAt ls k) then insS (dAt ls k) (sortS ls k) else sortS ls k) := fun k => rfl
  have HS0 : Hid (sortS ls 0 = []) := rfl
  obtain ⟨st, HST⟩ : ∃ st, Hid (st = sortS ls) := ⟨_, rfl⟩
  rw [← HST.out] at HSI HS0 ⊢
  have HSR : Hid (∀ k, (st k).length ≤ 128) := fun k => by rw [HST.out, ← (HSS.out k).1]; exact (HSS.out k).2.short
  clear HST HSS
  go_enter Tryz.func62, Tryz.ntmps62
  go_wp2_with fail
  go_loopw [3, 4] (fun o i wr => ∃ (k g c2 : Nat), k ≤ ls.length ∧ i = .int .i64 k ∧ o = .slice (some ⟨g, 0, none⟩) (st k).length c2 ∧ Hid (Acc elDomino w w.heap.size wr (.slice (some ⟨g, 0, none⟩) (st k).length c2) (st k))) (fun _ i _ => ls.length - (intOf i).toNat)
  case atStart => exact ⟨0, _, _, Nat.zero_le _, rfl, by rw [HS0.out]; rfl, by rw [HS0.out]; exact HA0⟩
  case round =>
    obtain ⟨k, g, ca, hk, rfl, rfl, HA⟩ := hrel
    by_cases hlt : k < ls.length
    · have ht : decide ((k : Int) < (ls.length : Int)) = true := by simp only [decide_eq_true_eq]; omega
      obtain ⟨ad, rfl, hbl, hx, hy, hz⟩ := G3.out k hlt
      have hbl2 : (ad.add (k * 3)).block < w.heap.size := by rw [addBlock]; omega
      have hbw := HA.out.2.1
      have hx' := (hbw.cell (p := ad.add (k * 3)) hbl2).trans hx
      have hy' := (hbw.cell (p := ⟨(ad.add (k * 3)).block, (ad.add (k * 3)).off + 1, none⟩) hbl2).trans hy
      have hz' := (hbw.cell (p := ⟨(ad.add (k * 3)).block, (ad.add (k * 3)).off + 2, none⟩) hbl2).trans hz
      have HNX := Lib.hid (HSI.out k)
      have hshort := HSR.out k
      have HDA : Hid (dAt ls k = (lx ls k, ly ls k, ld ls k)) := rfl
      rw [HDA.out] at HNX
      have hk0 : (0 : Int) ≤ (k : Int) := by omega
      have hk1 : (k : Int) < (ls.length : Int) := by omega
      generalize lx ls k = x at *
      generalize ly ls k = y at *
      generalize ld ls k = d at *
      obtain ⟨ys, HYQ⟩ : ∃ ys, Hid (st k = ys) := ⟨_, rfl⟩
      rw [HYQ.out] at HA HNX hshort ⊢
      have hcap : ys.length ≤ ca ∧ ca ≤ maxLen := by
        obtain ⟨A9, c9, hv9, q1, q2, _⟩ := HA.out.1.rd okDomino
        simp at hv9
        omega
      obtain ⟨q1, q2⟩ := hcap
      unfold maxLen at q2
      have HXW : Hid (Three wr (ad.add (k * 3)) x y d) := ⟨hx', hy', hz'⟩
      have HADB := Lib.hid hbl2
      clear hx hy hz hbw HDA HYQ hbl2
      go_wp2_with fail
      refine (specDominoOk_any x y d _).mono ?_
      rintro e w1 ⟨rfl, hb1⟩
      have HA3 := Lib.hid (HA.out.below hb1)
      have hsz := HA.out.2.1.size
      have had : (ad.add (k * 3)).block < wr.heap.size := Nat.lt_of_lt_of_le HADB.out hsz
      have HX1 : Hid (Three w1 (ad.add (k * 3)) x y d) := ⟨(hb1.cell (p := ad.add (k * 3)) had).trans hx', (hb1.cell (p := ⟨(ad.add (k * 3)).block, (ad.add (k * 3)).off + 1, none⟩) had).trans hy', (hb1.cell (p := ⟨(ad.add (k * 3)).block, (ad.add (k * 3)).off + 2, none⟩) had).trans hz'⟩
      have HAD1 : Hid ((ad.add (k * 3)).block < w1.heap.size) := Nat.lt_of_lt_of_le had hb1.size
      clear hb1 hsz had hx' hy' hz' HXW
      obtain ⟨f1, f2, f3⟩ := HX1.out
      cases hd : domB x y d
      · have HE : Hid (st (k + 1) = ys) := by unfold Hid; rw [HNX.out, if_neg (by simp [domL, hd])]
        clear HNX hd
        go_wp2_with fail
        go_roundw
        case rel => exact ⟨k + 1, g, ca, by omega, by go_num, by rw [HE.out], by rw [HE.out]; exact HA3⟩
        case measure => simp [intOf]; omega
      · have HE : Hid (st (k + 1) = if decide (upK ys (x, y, d) ys.length 0 < ys.length) && (dAt ys (upK ys (x, y, d) ys.length 0) == (x, y, d)) then ys else ys.take (upK ys (x, y, d) ys.length 0) ++ [(x, y, d)] ++ ys.drop (upK ys (x, y, d) ys.length 0)) := by unfold Hid; rw [HNX.out, if_pos (by simp [domL, hd])]; rfl
        obtain ⟨q, HQ⟩ : ∃ q, Hid (upK ys (x, y, d) ys.length 0 = q) := ⟨_, rfl⟩
        rw [HQ.out] at HE
        clear HNX hd
        go_wp2_with fail
        go_loopw [5] (fun s wr2 => ∃ j : Nat, j ≤ ys.length ∧ s = .int .i64 j ∧ Hid (upK ys (x, y, d) (ys.length - j) j = q) ∧ Hid (Below w1.heap.size w1 wr2)) (fun s _ => ys.length - (intOf s).toNat)
        case atStart => exact ⟨0, Nat.zero_le _, rfl, HQ, Below.refl _ _⟩
        case round =>
          obtain ⟨j, hj, rfl, HJ, HB⟩ := hrel
          have HA4 := Lib.hid (HA3.out.below HB.out)
          have HX2 : Hid (Three wr (ad.add (k * 3)) x y d) := ⟨(HB.out.cell (p := ad.add (k * 3)) HAD1.out).trans HX1.out.1, (HB.out.cell (p := ⟨(ad.add (k * 3)).block, (ad.add (k * 3)).off + 1, none⟩) HAD1.out).trans HX1.out.2.1, (HB.out.cell (p := ⟨(ad.add (k * 3)).block, (ad.add (k * 3)).off + 2, none⟩) HAD1.out).trans HX1.out.2.2⟩
          have HAD2 : Hid ((ad.add (k * 3)).block < wr.heap.size) := Nat.lt_of_lt_of_le HAD1.out HB.out.size
          clear f1 f2 f3
          obtain ⟨e1, e2, e3⟩ := HX2.out
          have hj0 : (0 : Int) ≤ (j : Int) := by omega
          by_cases hjl : j < ys.length
          · have htj : decide (j < ys.length) = true := by simp only [decide_eq_true_eq]; omega
            have hj1 : (j : Int) < (ys.length : Int) := by omega
            obtain ⟨c0, c1, c2, _⟩ := triStore okDomino rfl (fun _ => rfl) HA4.out.1 hjl
            have HDM : Hid (dAt ys j = (lx ys j, ly ys j, ld ys j)) := rfl
            have HJ2 : Hid ((if domLt (lx ys j, ly ys j, ld ys j) (x, y, d) then upK ys (x, y, d) (ys.length - (j + 1)) (j + 1) else j) = q) := by
              unfold Hid; rw [← HJ.out, show ys.length - j = (ys.length - (j + 1)) + 1 by omega, upK, htj, HDM.out]; rfl
            have hgl : g < wr.heap.size := (HA4.out.1.lt g rfl).2
            have HGL := Lib.hid hgl
            generalize lx ys j = x2 at *
            generalize ly ys j = y2 at *
            generalize ld ys j = d2 at *
            have HS0 : Hid (TwoE wr wr (ad.add (k * 3)) x y d ⟨g, j * 3, none⟩ x2 y2 d2) := ⟨e1, e2, e3, c0, c1, c2, Nat.le_refl _, Below.refl _ _⟩
            clear hgl
            go_wp2_with fail
            go_region_held3 (fun w' => TwoE wr w' (ad.add (k * 3)) x y d ⟨g, j * 3, none⟩ x2 y2 d2)
              (first
                | exact HS0.out.drew
                | exact TwoE.keep hb1 HAD2.out HGL.out (by assumption))
              (first
                | (go_at_call 44; refine (specBefore_any x2 y2 d2 x y d _).mono ?_; rintro e w3 ⟨rfl, hb1⟩))
            have HP3 := Lib.hid (show TwoE wr _ (ad.add (k * 3)) x y d ⟨g, j * 3, none⟩ x2 y2 d2 from by assumption)
            clear e1 e2 e3 c0 c1 c2
            obtain ⟨e1, e2, e3, c0, c1, c2, _, hb3⟩ := HP3.out
            have HB3 := Lib.hid hb3
            clear hb3
            cases hlt2 : domLt (x2, y2, d2) (x, y, d)
            · have HQJ : Hid (q = j) := by unfold Hid; rw [← HJ2.out, if_neg (by simp [hlt2])]
              clear HJ2 hlt2
              by_cases heq : (x2, y2, d2) = (x, y, d)
              · have HE1 : Hid (st (k + 1) = ys) := by
                  unfold Hid; rw [HE.out, HQJ.out, if_pos]
                  rw [HDM.out, heq, htj]; simp
                simp only [Prod.mk.injEq] at heq
                obtain ⟨rfl, rfl, rfl⟩ := heq
                go_wp2_with fail
                go_quiet (fail)
                have HA9 := Lib.hid (HA4.out.below (HB3.out.trans (Drawn.below ⟨nq, rfl⟩ _)))
                go_wp2_with fail
                go_roundw
                case rel => exact ⟨k + 1, g, ca, by omega, by go_num, by rw [HE1.out], by rw [HE1.out]; exact HA9⟩
                case measure => simp [intOf]; omega
              · have HE0 : Hid (st (k + 1) = ys.take j ++ [(x, y, d)] ++ ys.drop j) := by
                  unfold Hid; rw [HE.out, HQJ.out, if_neg]
                  rw [HDM.out]
                  simpa [hjl] using heq
                have hsq : ∀ W : World, Sem.run Tryz.prog (binOp .eql 51 (.agg #[.int .i64 x2, .int .i64 y2, .bool d2]) (.agg #[.int .i64 x, .int .i64 y, .bool d])) W = .ok (.bool false) W := fun W => by
                  by_cases h1 : x2 = x
                  · by_cases h2 : y2 = y
                    · have h3 : ¬ d2 = d := fun h => heq (by rw [h1, h2, h])
                      go_simp
                    · go_simp
                  · go_simp
                clear heq HE
                go_wp2_with fail
                go_quiet (fail)
                clear hsq
                obtain ⟨W6, HW6⟩ : ∃ W6, Hid (W6 = World.drewN w3 nq) := ⟨_, rfl⟩
                rw [← HW6.out]
                have HBW : Hid (Below wr.heap.size wr W6) := by unfold Hid; rw [HW6.out]; exact HB3.out.trans (Drawn.below ⟨_, rfl⟩ _)
                clear c0 c1 c2
                have hcj : ¬ ca = j := by omega
                have HA6 := Lib.hid (HA4.out.below HBW.out)
                have hs6 := HBW.out.size
                have HX6 : Hid (Three W6 (ad.add (k * 3)) x y d) := ⟨(HBW.out.cell (p := ad.add (k * 3)) HAD2.out).trans HX2.out.1, (HBW.out.cell (p := ⟨(ad.add (k * 3)).block, (ad.add (k * 3)).off + 1, none⟩) HAD2.out).trans HX2.out.2.1, (HBW.out.cell (p := ⟨(ad.add (k * 3)).block, (ad.add (k * 3)).off + 2, none⟩) HAD2.out).trans HX2.out.2.2⟩
                have HAD6 : Hid ((ad.add (k * 3)).block < W6.heap.size) := Nat.lt_of_lt_of_le HAD2.out hs6
                have HR6 := Lib.hid (HA6.out.1.rd okDomino)
                have HN0 : Hid (Acc elDomino W6 W6.heap.size (W6.alloc (.cells #[] 51)) (.slice (some ⟨W6.heap.size, 0, none⟩) 0 0) []) := Acc.start W6
                have HR7 : Hid (RdF elDomino (W6.alloc (.cells #[] 51)) W6.heap.size (.slice (some ⟨g, 0, none⟩) j ca) (ys.take j)) := (HR6.out.below ((Below.refl _ _).alloc (Nat.le_refl _) _)).take hj
                have hjle : (j : Int) ≤ (ys.length : Int) := by omega
                have hjc : (j : Int) ≤ (ca : Int) := by omega
                clear e1 e2 e3 hs6
                go_wp2_with (first
                  | (at_builtin; refine wpList_pushSrcF okDomino rfl _ _ rfl HN0.out rfl (ys.take j) _ _ HR7.out rfl (by simp; omega) ?_; intro v8 w8 HN1 HG8; rw [List.nil_append] at HN1; obtain ⟨A8, c8, hv8, _⟩ := HN1.out.1.rd okDomino; rw [show (ys.take j).length = j by simp; omega] at hv8; subst hv8; have hb8 := HN1.out.2.1; have i1 := (hb8.cell (p := ad.add (k * 3)) HAD6.out).trans HX6.out.1; have i2 := (hb8.cell (p := ⟨(ad.add (k * 3)).block, (ad.add (k * 3)).off + 1, none⟩) HAD6.out).trans HX6.out.2.1; have i3 := (hb8.cell (p := ⟨(ad.add (k * 3)).block, (ad.add (k * 3)).off + 2, none⟩) HAD6.out).trans HX6.out.2.2; clear hb8)
                  | (at_builtin; refine wpList_push okDomino rfl _ _ rfl HN1.out rfl (x, y, d) _ rfl _ rfl rfl (by simp; omega) ?_; intro v9 w9 HN2 HG9; clear i1 i2 i3; obtain ⟨A9, c9, hv9, _⟩ := HN2.out.1.rd okDomino; rw [show (ys.take j ++ [((x, y, d) : Lk)]).length = j + 1 by simp; omega] at hv9; subst hv9; have h9 := (HR6.out.below HN2.out.2.1).drop hj; rw [if_neg hcj] at h9; have HR9 := Lib.hid h9; clear h9)
                  | (at_builtin; refine wpList_pushSrcF okDomino rfl _ _ rfl HN2.out rfl (ys.drop j) _ _ HR9.out rfl (by simp; omega) ?_; intro v10 w10 HN3 HG10; rw [← HE0.out] at HN3; have hp3 : 0 < (st (k + 1)).length := (by rw [HE0.out]; simp only [List.length_append, List.length_singleton]; omega); obtain ⟨g10, c10, hv10, _, _⟩ := World.ownsRow.form HN3.out.1 hp3; subst hv10))
                all_goals
                  have hmono := HA6.out.2.1.size
                  go_roundw
                  case rel => exact ⟨k + 1, g10, c10, by omega, by go_num, rfl, ⟨HN3.out.1.mono hmono, HA6.out.2.1.trans (HN3.out.2.1.mono hmono), Nat.le_refl _, Nat.le_trans hmono HN3.out.2.1.size⟩⟩
                  case measure => simp [intOf]; omega
            · have HJ3 : Hid (upK ys (x, y, d) (ys.length - (j + 1)) (j + 1) = q) := by unfold Hid; rw [← HJ2.out, if_pos hlt2]
              have HB4 := Lib.hid (HB.out.trans (HB3.out.mono HB.out.size))
              clear HJ2
              go_wp2_with fail
              go_roundw
              case rel => exact ⟨j + 1, by omega, by go_num, HJ3, HB4⟩
              case measure => simp [intOf]; omega
          · have htj : decide (j < ys.length) = false := by simp only [decide_eq_false_iff_not]; omega
            have HQJ : Hid (q = j) := by unfold Hid; rw [← HJ.out, show ys.length - j = 0 by omega]; rfl
            have HE0 : Hid (st (k + 1) = ys.take j ++ [(x, y, d)] ++ ys.drop j) := by
              unfold Hid; rw [HE.out, HQJ.out, htj]; simp
            go_wp2_with fail
            go_quiet (fail)
            obtain ⟨W5, HW5⟩ : ∃ W5, Hid (W5 = wr.drewN nq) := ⟨_, rfl⟩
            rw [← HW5.out]
            go_wp2_with fail
            go_quiet (fail)
            obtain ⟨W6, HW6⟩ : ∃ W6, Hid (W6 = W5.drewN nq) := ⟨_, rfl⟩
            rw [← HW6.out]
            have HBW : Hid (Below wr.heap.size wr W6) := by unfold Hid; rw [HW6.out, HW5.out]; exact (Drawn.below ⟨_, rfl⟩ _).trans ((Drawn.below ⟨_, rfl⟩ _))
            have HE9 : Hid (st (k + 1) = ys.take j ++ [(x, y, d)]) := by unfold Hid; rw [HE0.out, List.drop_of_length_le (by omega)]; simp
            have HA6 := Lib.hid (HA4.out.below HBW.out)
            have hs6 := HBW.out.size
            have HX6 : Hid (Three W6 (ad.add (k * 3)) x y d) := ⟨(HBW.out.cell (p := ad.add (k * 3)) HAD2.out).trans HX2.out.1, (HBW.out.cell (p := ⟨(ad.add (k * 3)).block, (ad.add (k * 3)).off + 1, none⟩) HAD2.out).trans HX2.out.2.1, (HBW.out.cell (p := ⟨(ad.add (k * 3)).block, (ad.add (k * 3)).off + 2, none⟩) HAD2.out).trans HX2.out.2.2⟩
            have HAD6 : Hid ((ad.add (k * 3)).block < W6.heap.size) := Nat.lt_of_lt_of_le HAD2.out hs6
            have HR6 := Lib.hid (HA6.out.1.rd okDomino)
            have HN0 : Hid (Acc elDomino W6 W6.heap.size (W6.alloc (.cells #[] 51)) (.slice (some ⟨W6.heap.size, 0, none⟩) 0 0) []) := Acc.start W6
            have HR7 : Hid (RdF elDomino (W6.alloc (.cells #[] 51)) W6.heap.size (.slice (some ⟨g, 0, none⟩) j ca) (ys.take j)) := (HR6.out.below ((Below.refl _ _).alloc (Nat.le_refl _) _)).take hj
            have hjle : (j : Int) ≤ (ys.length : Int) := by omega
            have hjc : (j : Int) ≤ (ca : Int) := by omega
            clear e1 e2 e3 hs6
            go_wp2_with (first
              | (at_builtin; refine wpList_pushSrcF okDomino rfl _ _ rfl HN0.out rfl (ys.take j) _ _ HR7.out rfl (by simp; omega) ?_; intro v8 w8 HN1 HG8; rw [List.nil_append] at HN1; obtain ⟨A8, c8, hv8, _⟩ := HN1.out.1.rd okDomino; rw [show (ys.take j).length = j by simp; omega] at hv8; subst hv8; have hb8 := HN1.out.2.1; have i1 := (hb8.cell (p := ad.add (k * 3)) HAD6.out).trans HX6.out.1; have i2 := (hb8.cell (p := ⟨(ad.add (k * 3)).block, (ad.add (k * 3)).off + 1, none⟩) HAD6.out).trans HX6.out.2.1; have i3 := (hb8.cell (p := ⟨(ad.add (k * 3)).block, (ad.add (k * 3)).off + 2, none⟩) HAD6.out).trans HX6.out.2.2; clear hb8)
              | (at_builtin; refine wpList_push okDomino rfl _ _ rfl HN1.out rfl (x, y, d) _ rfl _ rfl rfl (by simp; omega) ?_; intro v9 w9 HN2 HG9; clear i1 i2 i3; obtain ⟨A9, c9, hv9, _⟩ := HN2.out.1.rd okDomino; rw [show (ys.take j ++ [((x, y, d) : Lk)]).length = j + 1 by simp; omega] at hv9; subst hv9)
              | (at_builtin; refine wpList_pushSrcF okDomino rfl _ _ rfl HN2.out rfl [] 0 _ ?hr9 rfl (by simp; omega) ?_; (case hr9 => exact RdF.void (by omega) (by unfold maxLen; omega)); intro v10 w10 HN3 HG10; rw [List.append_nil, ← HE9.out] at HN3; have hp3 : 0 < (st (k + 1)).length := (by rw [HE9.out]; simp only [List.length_append, List.length_singleton]; omega); obtain ⟨g10, c10, hv10, _, _⟩ := World.ownsRow.form HN3.out.1 hp3; subst hv10))
            all_goals
              have hmono := HA6.out.2.1.size
              go_roundw
              case rel => exact ⟨k + 1, g10, c10, by omega, by go_num, rfl, ⟨HN3.out.1.mono hmono, HA6.out.2.1.trans (HN3.out.2.1.mono hmono), Nat.le_refl _, Nat.le_trans hmono HN3.out.2.1.size⟩⟩
              case measure => simp [intOf]; omega
    · obtain rfl : k = ls.length := by omega
      have ht : decide ((ls.length : Int) < (ls.length : Int)) = false := by simp
      go_wp2_with fail
      go_ret
      exact ⟨_, rfl, HA.out.1, HA.out.2.1⟩
end Go.Proofs.YtehnbalbpfmijaaGreatDoor

namespace Go.Proofs.YtehnbalbpfmijaaGreatDoor
open Go.RowKit
set_option linter.unusedVariables false

theorem tri_put {w : World} {b : Nat} {x0 y0 : Int} {d0 : Bool} {t : TypeId} (k : w.heap[b]? = some (triO x0 y0 d0 t)) (x y : Int) (d : Bool) : (((w.setCell ⟨b, 0, none⟩ (.int .i64 x)).setCell ⟨b, 1, none⟩ (.int .i64 y)).setCell ⟨b, 2, none⟩ (.bool d)).heap[b]? = some (triO x y d t) :=
  blk_setCell (k := 2) (blk_setCell (k := 1) (blk_setCell (k := 0) k (.int .i64 x)) (.int .i64 y)) (.bool d)
theorem tri_oth {w : World} {a b : Nat} (h : a ≠ b) (u v z : Value) : (((w.setCell ⟨b, 0, none⟩ u).setCell ⟨b, 1, none⟩ v).setCell ⟨b, 2, none⟩ z).heap[a]? = w.heap[a]? :=
  (Below.heap_setCell _ _ _ _ (by show a ≠ b; exact h)).trans ((Below.heap_setCell _ _ _ _ (by show a ≠ b; exact h)).trans (Below.heap_setCell _ _ _ _ (by show a ≠ b; exact h)))
theorem drew_blk (U : World) (a : Nat) : U.drew.heap[a]? = U.heap[a]? := rfl
theorem tri_stores {w V : World} {a b : Nat} {x y x' y' p q p' q' : Int} {d d' e e' : Bool} {ty : TypeId} (K1 : V.heap[a]? = some (triO p q e ty)) (K2 : V.heap[b]? = some (triO p' q' e' ty)) (hab : a ≠ b) (ha : w.heap.size ≤ a) (hb : w.heap.size ≤ b) (HB : Below w.heap.size w V) :
    ∀ X, X = ((((((V.setCell ⟨a, 0, none⟩ (.int .i64 x)).setCell ⟨a, 1, none⟩ (.int .i64 y)).setCell ⟨a, 2, none⟩ (.bool d)).setCell ⟨b, 0, none⟩ (.int .i64 x')).setCell ⟨b, 1, none⟩ (.int .i64 y')).setCell ⟨b, 2, none⟩ (.bool d')).drew →
      X.heap[a]? = some (triO x y d ty) ∧ X.heap[b]? = some (triO x' y' d' ty) ∧ Below w.heap.size w X := by
  intro X hX
  rw [hX]
  clear hX
  have h1 := (tri_oth hab (.int .i64 x') (.int .i64 y') (.bool d')).trans (tri_put K1 x y d)
  have h2 := tri_put ((tri_oth (Ne.symm hab) (.int .i64 x) (.int .i64 y) (.bool d)).trans K2) x' y' d'
  refine ⟨(drew_blk _ _).trans h1, (drew_blk _ _).trans h2, ((((((HB.setCell (p := ⟨a, 0, none⟩) ha _).setCell (p := ⟨a, 1, none⟩) ha _).setCell (p := ⟨a, 2, none⟩) ha _).setCell (p := ⟨b, 0, none⟩) hb _).setCell (p := ⟨b, 1, none⟩) hb _).setCell (p := ⟨b, 2, none⟩) hb _).drew⟩
/-- The other domino of a pair. -/
def othX (x : Int) (d : Bool) : Int := if d then x + 1 else x
def othY (y : Int) (d : Bool) : Int := if d then y else y + 1

set_option maxRecDepth 100000 in
set_option maxHeartbeats 1000000 in
theorem l11Pair_yes (x y : Int) (d : Bool) (hx : 0 ≤ x ∧ x ≤ 6) (hy : 0 ≤ y ∧ y ≤ 6) (w : World) :
    Calls Tryz.prog 61 #[spotV x y, .bool d] w fun e w' => e = .returned (.tuple #[triV x y d, triV (othX x d) (othY y d) d]) ∧ Below w.heap.size w w' := by
  obtain ⟨hx0, hx1⟩ := hx
  obtain ⟨hy0, hy1⟩ := hy
  cases d
  · have hw1 : IntKind.i64.wrap (y + 1) = y + 1 := IntWalk.i64_in _ (by omega)
    have hw2 : wrap64 (y + 1) = y + 1 := IntWalk.wrap64_in _ (by omega)
    go_enter Tryz.func61, Tryz.ntmps61
    go_wp2_with fail
    obtain ⟨W, hW, k0, k1, k2, hb⟩ := three_alloc w (.cells #[.int .i64 x, .int .i64 y] 44) (triO 0 0 false 51) (triO 0 0 false 51)
    rw [← hW]
    have c0 : W.drew.cell? ⟨w.heap.size, 0, none⟩ = some (.int .i64 x) := by show W.cell? _ = _; rw [blk_cell k0]; rfl
    have c1 : W.drew.cell? ⟨w.heap.size, 1, none⟩ = some (.int .i64 y) := by show W.cell? _ = _; rw [blk_cell k0]; rfl
    obtain ⟨d0, d1, d2⟩ := tri_cells k1
    obtain ⟨e0, e1, e2⟩ := tri_cells k2
    have f0 : ∀ o, W.frozen? ⟨w.heap.size + 1, o, none⟩ = false := fun o => blk_free k1
    have f2 : ∀ o, W.frozen? ⟨w.heap.size + 1 + 1, o, none⟩ = false := fun o => blk_free k2
    have g0 : W.cell? ⟨w.heap.size, 0, none⟩ = some (.int .i64 x) := by rw [blk_cell k0]; rfl
    have g1 : W.cell? ⟨w.heap.size, 1, none⟩ = some (.int .i64 y) := by rw [blk_cell k0]; rfl
    have T1 := Lib.hid (tri_stores (w := w) (V := W) (x := x) (y := y) (d := false) (x' := x) (y' := (y + 1)) (d' := false) k1 k2 (by omega) (by omega) (by omega) hb)
    clear hW k0 k1 k2 hb
    refine wp_region_held_drew (S := fun w' => w'.cell? ⟨w.heap.size, 0, none⟩ = some (.int .i64 x) ∧ w'.cell? ⟨w.heap.size, 1, none⟩ = some (.int .i64 y)) (by kernel_rfl) (by exact ⟨c0, c1⟩) (fun hHeld => ?_)
    refine wpAnyH_take (i := 0) (oi := ⟨_, _, _, _, _, _⟩) (v := ?vap31112q1n0) rfl (by kernel_rfl) (by kernel_rfl) (by kernel_rfl) (fun _ _ _ h => h) (Or.inl ⟨by rfl, ?hap31112q1n0⟩) (by assumption) ?_
    case hap31112q1n0 => (intro w hSw; (try dsimp only at hSw); go_simp; try with_reducible rfl)
    try simp only [Act.put, List.setIfInBounds_toArray, List.set_cons_zero, List.set_cons_succ]
    refine wpAnyH_take (i := 1) (oi := ⟨_, _, _, _, _, _⟩) (v := ?vap31112q2n1) rfl (by kernel_rfl) (by kernel_rfl) (by kernel_rfl) (fun _ _ _ h => h) (Or.inl ⟨by rfl, ?hap31112q2n1⟩) (by assumption) ?_
    case hap31112q2n1 => (intro w hSw; (try dsimp only at hSw); go_simp; try with_reducible rfl)
    try simp only [Act.put, List.setIfInBounds_toArray, List.set_cons_zero, List.set_cons_succ]
    refine wpAnyH_take (i := 2) (oi := ⟨_, _, _, _, _, _⟩) (v := ?vap31112q3n2) rfl (by kernel_rfl) (by kernel_rfl) (by kernel_rfl) (fun _ _ _ h => h) (Or.inl ⟨by rfl, ?hap31112q3n2⟩) (by assumption) ?_
    case hap31112q3n2 => (intro w hSw; (try dsimp only at hSw); go_simp; try with_reducible rfl)
    try simp only [Act.put, List.setIfInBounds_toArray, List.set_cons_zero, List.set_cons_succ]
    refine wpAnyH_take (i := 3) (oi := ⟨_, _, _, _, _, _⟩) (v := ?vap31112q4n3) rfl (by kernel_rfl) (by kernel_rfl) (by kernel_rfl) (fun _ _ _ h => h) (Or.inl ⟨by rfl, ?hap31112q4n3⟩) (by assumption) ?_
    case hap31112q4n3 => (intro w hSw; (try dsimp only at hSw); go_simp; try with_reducible rfl)
    try simp only [Act.put, List.setIfInBounds_toArray, List.set_cons_zero, List.set_cons_succ]
    refine wpAnyH_take (i := 4) (oi := ⟨_, _, _, _, _, _⟩) (v := ?vap31112q5n4) rfl (by kernel_rfl) (by kernel_rfl) (by kernel_rfl) (fun _ _ _ h => h) (Or.inl ⟨by rfl, ?hap31112q5n4⟩) (by assumption) ?_
    case hap31112q5n4 => (intro w hSw; (try dsimp only at hSw); go_simp; try with_reducible rfl)
    try simp only [Act.put, List.setIfInBounds_toArray, List.set_cons_zero, List.set_cons_succ]
    refine wpAnyH_take (i := 5) (oi := ⟨_, _, _, _, _, _⟩) (v := ?vap31112q6n5) rfl (by kernel_rfl) (by kernel_rfl) (by kernel_rfl) (fun _ _ _ h => h) (Or.inl ⟨by rfl, ?hap31112q6n5⟩) (by assumption) ?_
    case hap31112q6n5 => (intro w hSw; (try dsimp only at hSw); go_simp; try with_reducible rfl)
    try simp only [Act.put, List.setIfInBounds_toArray, List.set_cons_zero, List.set_cons_succ]
    refine wpAnyH_take (i := 6) (oi := ⟨_, _, _, _, _, _⟩) (v := ?vap31112q7n6) rfl (by kernel_rfl) (by kernel_rfl) (by kernel_rfl) (fun _ _ _ h => h) (Or.inl ⟨by rfl, ?hap31112q7n6⟩) (by assumption) ?_
    case hap31112q7n6 => (intro w hSw; (try dsimp only at hSw); go_simp; try with_reducible rfl)
    try simp only [Act.put, List.setIfInBounds_toArray, List.set_cons_zero, List.set_cons_succ]
    refine wpAnyH_take (i := 7) (oi := ⟨_, _, _, _, _, _⟩) (v := ?vap31112q8n7) rfl (by kernel_rfl) (by kernel_rfl) (by kernel_rfl) (fun _ _ _ h => h) (Or.inl ⟨by rfl, ?hap31112q8n7⟩) (by assumption) ?_
    case hap31112q8n7 => (intro w hSw; (try dsimp only at hSw); go_simp; try with_reducible rfl)
    try simp only [Act.put, List.setIfInBounds_toArray, List.set_cons_zero, List.set_cons_succ]
    refine wpAnyH_take (i := 8) (oi := ⟨_, _, _, _, _, _⟩) (v := ?vap31112q9n8) rfl (by kernel_rfl) (by kernel_rfl) (by kernel_rfl) (fun _ _ _ h => h) (Or.inl ⟨by rfl, ?hap31112q9n8⟩) (by assumption) ?_
    case hap31112q9n8 => (intro w hSw; (try dsimp only at hSw); go_simp; try with_reducible rfl)
    try simp only [Act.put, List.setIfInBounds_toArray, List.set_cons_zero, List.set_cons_succ]
    refine wpAnyH_take (i := 9) (oi := ⟨_, _, _, _, _, _⟩) (v := ?vap31112q10n9) rfl (by kernel_rfl) (by kernel_rfl) (by kernel_rfl) (fun _ _ _ h => h) (Or.inl ⟨by rfl, ?hap31112q10n9⟩) (by assumption) ?_
    case hap31112q10n9 => (intro w hSw; (try dsimp only at hSw); go_simp; try with_reducible rfl)
    try simp only [Act.put, List.setIfInBounds_toArray, List.set_cons_zero, List.set_cons_succ]
    refine wpAnyH_take (i := 10) (oi := ⟨_, _, _, _, _, _⟩) (v := ?vap31112q11n10) rfl (by kernel_rfl) (by kernel_rfl) (by kernel_rfl) (fun _ _ _ h => h) (Or.inl ⟨by rfl, ?hap31112q11n10⟩) (by assumption) ?_
    case hap31112q11n10 => (intro w hSw; (try dsimp only at hSw); go_simp; try with_reducible rfl)
    try simp only [Act.put, List.setIfInBounds_toArray, List.set_cons_zero, List.set_cons_succ]
    refine wpAnyH_ready (rs := [11]) (by kernel_rfl) (by simp) ?_
    refine AllReadyH.cons (o := ⟨_, _, _, _, _, _⟩) rfl (fun K hK => ?_) AllReadyH.nil
    go_simp
    refine hK.out _ _ (by (obtain ⟨hq0, hq1⟩ := hHeld; refine ⟨?_, ?_⟩ <;> go_simp)) (fun hHeld => ?_)
    clear hK K
    try simp only [Act.put, List.setIfInBounds_toArray, List.set_cons_zero, List.set_cons_succ]
    refine wpAnyH_ready (rs := [12]) (by kernel_rfl) (by simp) ?_
    refine AllReadyH.cons (o := ⟨_, _, _, _, _, _⟩) rfl (fun K hK => ?_) AllReadyH.nil
    go_simp
    refine hK.out _ _ (by (obtain ⟨hq0, hq1⟩ := hHeld; refine ⟨?_, ?_⟩ <;> go_simp)) (fun hHeld => ?_)
    clear hK K
    try simp only [Act.put, List.setIfInBounds_toArray, List.set_cons_zero, List.set_cons_succ]
    refine wpAnyH_done (by kernel_rfl) ?_ _
    go_wp2_with fail
    generalize hX : World.drew _ = X
    obtain ⟨r0, r1, r4⟩ := T1.out X hX.symm
    obtain ⟨p0, p1, p2⟩ := tri_cells r0
    obtain ⟨q0, q1, q2⟩ := tri_cells r1
    refine bodyPost_ret (v := .tuple #[triV x y false, triV x (y + 1) false]) (by simp [results, Tryz.results61, go_sem, p0, p1, p2, q0, q1, q2]) rfl ⟨rfl, r4⟩
  · have hw1 : IntKind.i64.wrap (x + 1) = x + 1 := IntWalk.i64_in _ (by omega)
    have hw2 : wrap64 (x + 1) = x + 1 := IntWalk.wrap64_in _ (by omega)
    go_enter Tryz.func61, Tryz.ntmps61
    go_wp2_with fail
    obtain ⟨W, hW, k0, k1, k2, hb⟩ := three_alloc w (.cells #[.int .i64 x, .int .i64 y] 44) (triO 0 0 false 51) (triO 0 0 false 51)
    rw [← hW]
    have c0 : W.drew.cell? ⟨w.heap.size, 0, none⟩ = some (.int .i64 x) := by show W.cell? _ = _; rw [blk_cell k0]; rfl
    have c1 : W.drew.cell? ⟨w.heap.size, 1, none⟩ = some (.int .i64 y) := by show W.cell? _ = _; rw [blk_cell k0]; rfl
    obtain ⟨d0, d1, d2⟩ := tri_cells k1
    obtain ⟨e0, e1, e2⟩ := tri_cells k2
    have f0 : ∀ o, W.frozen? ⟨w.heap.size + 1, o, none⟩ = false := fun o => blk_free k1
    have f2 : ∀ o, W.frozen? ⟨w.heap.size + 1 + 1, o, none⟩ = false := fun o => blk_free k2
    have g0 : W.cell? ⟨w.heap.size, 0, none⟩ = some (.int .i64 x) := by rw [blk_cell k0]; rfl
    have g1 : W.cell? ⟨w.heap.size, 1, none⟩ = some (.int .i64 y) := by rw [blk_cell k0]; rfl
    have T1 := Lib.hid (tri_stores (w := w) (V := W) (x := x) (y := y) (d := true) (x' := (x + 1)) (y' := y) (d' := true) k1 k2 (by omega) (by omega) (by omega) hb)
    clear hW k0 k1 k2 hb
    refine wp_region_held_drew (S := fun w' => w'.cell? ⟨w.heap.size, 0, none⟩ = some (.int .i64 x) ∧ w'.cell? ⟨w.heap.size, 1, none⟩ = some (.int .i64 y)) (by kernel_rfl) (by exact ⟨c0, c1⟩) (fun hHeld => ?_)
    refine wpAnyH_take (i := 0) (oi := ⟨_, _, _, _, _, _⟩) (v := ?vap31113q1n0) rfl (by kernel_rfl) (by kernel_rfl) (by kernel_rfl) (fun _ _ _ h => h) (Or.inl ⟨by rfl, ?hap31113q1n0⟩) (by assumption) ?_
    case hap31113q1n0 => (intro w hSw; (try dsimp only at hSw); go_simp; try with_reducible rfl)
    try simp only [Act.put, List.setIfInBounds_toArray, List.set_cons_zero, List.set_cons_succ]
    refine wpAnyH_take (i := 1) (oi := ⟨_, _, _, _, _, _⟩) (v := ?vap31113q2n1) rfl (by kernel_rfl) (by kernel_rfl) (by kernel_rfl) (fun _ _ _ h => h) (Or.inl ⟨by rfl, ?hap31113q2n1⟩) (by assumption) ?_
    case hap31113q2n1 => (intro w hSw; (try dsimp only at hSw); go_simp; try with_reducible rfl)
    try simp only [Act.put, List.setIfInBounds_toArray, List.set_cons_zero, List.set_cons_succ]
    refine wpAnyH_take (i := 2) (oi := ⟨_, _, _, _, _, _⟩) (v := ?vap31113q3n2) rfl (by kernel_rfl) (by kernel_rfl) (by kernel_rfl) (fun _ _ _ h => h) (Or.inl ⟨by rfl, ?hap31113q3n2⟩) (by assumption) ?_
    case hap31113q3n2 => (intro w hSw; (try dsimp only at hSw); go_simp; try with_reducible rfl)
    try simp only [Act.put, List.setIfInBounds_toArray, List.set_cons_zero, List.set_cons_succ]
    refine wpAnyH_take (i := 3) (oi := ⟨_, _, _, _, _, _⟩) (v := ?vap31113q4n3) rfl (by kernel_rfl) (by kernel_rfl) (by kernel_rfl) (fun _ _ _ h => h) (Or.inl ⟨by rfl, ?hap31113q4n3⟩) (by assumption) ?_
    case hap31113q4n3 => (intro w hSw; (try dsimp only at hSw); go_simp; try with_reducible rfl)
    try simp only [Act.put, List.setIfInBounds_toArray, List.set_cons_zero, List.set_cons_succ]
    refine wpAnyH_take (i := 4) (oi := ⟨_, _, _, _, _, _⟩) (v := ?vap31113q5n4) rfl (by kernel_rfl) (by kernel_rfl) (by kernel_rfl) (fun _ _ _ h => h) (Or.inl ⟨by rfl, ?hap31113q5n4⟩) (by assumption) ?_
    case hap31113q5n4 => (intro w hSw; (try dsimp only at hSw); go_simp; try with_reducible rfl)
    try simp only [Act.put, List.setIfInBounds_toArray, List.set_cons_zero, List.set_cons_succ]
    refine wpAnyH_take (i := 5) (oi := ⟨_, _, _, _, _, _⟩) (v := ?vap31113q6n5) rfl (by kernel_rfl) (by kernel_rfl) (by kernel_rfl) (fun _ _ _ h => h) (Or.inl ⟨by rfl, ?hap31113q6n5⟩) (by assumption) ?_
    case hap31113q6n5 => (intro w hSw; (try dsimp only at hSw); go_simp; try with_reducible rfl)
    try simp only [Act.put, List.setIfInBounds_toArray, List.set_cons_zero, List.set_cons_succ]
    refine wpAnyH_take (i := 6) (oi := ⟨_, _, _, _, _, _⟩) (v := ?vap31113q7n6) rfl (by kernel_rfl) (by kernel_rfl) (by kernel_rfl) (fun _ _ _ h => h) (Or.inl ⟨by rfl, ?hap31113q7n6⟩) (by assumption) ?_
    case hap31113q7n6 => (intro w hSw; (try dsimp only at hSw); go_simp; try with_reducible rfl)
    try simp only [Act.put, List.setIfInBounds_toArray, List.set_cons_zero, List.set_cons_succ]
    refine wpAnyH_take (i := 7) (oi := ⟨_, _, _, _, _, _⟩) (v := ?vap31113q8n7) rfl (by kernel_rfl) (by kernel_rfl) (by kernel_rfl) (fun _ _ _ h => h) (Or.inl ⟨by rfl, ?hap31113q8n7⟩) (by assumption) ?_
    case hap31113q8n7 => (intro w hSw; (try dsimp only at hSw); go_simp; try with_reducible rfl)
    try simp only [Act.put, List.setIfInBounds_toArray, List.set_cons_zero, List.set_cons_succ]
    refine wpAnyH_take (i := 8) (oi := ⟨_, _, _, _, _, _⟩) (v := ?vap31113q9n8) rfl (by kernel_rfl) (by kernel_rfl) (by kernel_rfl) (fun _ _ _ h => h) (Or.inl ⟨by rfl, ?hap31113q9n8⟩) (by assumption) ?_
    case hap31113q9n8 => (intro w hSw; (try dsimp only at hSw); go_simp; try with_reducible rfl)
    try simp only [Act.put, List.setIfInBounds_toArray, List.set_cons_zero, List.set_cons_succ]
    refine wpAnyH_take (i := 9) (oi := ⟨_, _, _, _, _, _⟩) (v := ?vap31113q10n9) rfl (by kernel_rfl) (by kernel_rfl) (by kernel_rfl) (fun _ _ _ h => h) (Or.inl ⟨by rfl, ?hap31113q10n9⟩) (by assumption) ?_
    case hap31113q10n9 => (intro w hSw; (try dsimp only at hSw); go_simp; try with_reducible rfl)
    try simp only [Act.put, List.setIfInBounds_toArray, List.set_cons_zero, List.set_cons_succ]
    refine wpAnyH_take (i := 10) (oi := ⟨_, _, _, _, _, _⟩) (v := ?vap31113q11n10) rfl (by kernel_rfl) (by kernel_rfl) (by kernel_rfl) (fun _ _ _ h => h) (Or.inl ⟨by rfl, ?hap31113q11n10⟩) (by assumption) ?_
    case hap31113q11n10 => (intro w hSw; (try dsimp only at hSw); go_simp; try with_reducible rfl)
    try simp only [Act.put, List.setIfInBounds_toArray, List.set_cons_zero, List.set_cons_succ]
    refine wpAnyH_ready (rs := [11]) (by kernel_rfl) (by simp) ?_
    refine AllReadyH.cons (o := ⟨_, _, _, _, _, _⟩) rfl (fun K hK => ?_) AllReadyH.nil
    go_simp
    refine hK.out _ _ (by (obtain ⟨hq0, hq1⟩ := hHeld; refine ⟨?_, ?_⟩ <;> go_simp)) (fun hHeld => ?_)
    clear hK K
    try simp only [Act.put, List.setIfInBounds_toArray, List.set_cons_zero, List.set_cons_succ]
    refine wpAnyH_ready (rs := [12]) (by kernel_rfl) (by simp) ?_
    refine AllReadyH.cons (o := ⟨_, _, _, _, _, _⟩) rfl (fun K hK => ?_) AllReadyH.nil
    go_simp
    refine hK.out _ _ (by (obtain ⟨hq0, hq1⟩ := hHeld; refine ⟨?_, ?_⟩ <;> go_simp)) (fun hHeld => ?_)
    clear hK K
    try simp only [Act.put, List.setIfInBounds_toArray, List.set_cons_zero, List.set_cons_succ]
    refine wpAnyH_done (by kernel_rfl) ?_ _
    go_wp2_with fail
    generalize hX : World.drew _ = X
    obtain ⟨r0, r1, r4⟩ := T1.out X hX.symm
    obtain ⟨p0, p1, p2⟩ := tri_cells r0
    obtain ⟨q0, q1, q2⟩ := tri_cells r1
    refine bodyPost_ret (v := .tuple #[triV x y true, triV (x + 1) y true]) (by simp [results, Tryz.results61, go_sem, p0, p1, p2, q0, q1, q2]) rfl ⟨rfl, r4⟩
end Go.Proofs.YtehnbalbpfmijaaGreatDoor
