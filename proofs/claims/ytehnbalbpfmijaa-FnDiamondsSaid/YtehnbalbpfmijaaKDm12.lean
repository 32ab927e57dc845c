/- What the claim's walk rests on: parts FstT, Flip, Flip2, Flip3, CurOwn, Cur, DmDraw. -/
import Derived.Test.YtehnbalbpfmijaaKDm10
import Derived.Test.YtehnbalbpfmijaaKDm5
import Derived.Test.YtehnbalbpfmijaaKDm11
import Derived.Test.YtehnbalbpfmijaaKDm8
import Derived.Test.YtehnbalbpfmijaaKDm6
import Derived.Test.YtehnbalbpfmijaaKDm1
import Derived.Test.YtehnbalbpfmijaaKDm3
import Derived.Test.YtehnbalbpfmijaaKDm4
import Derived.Deep.LoopGhost
import Derived.Deep.Cut
import Derived.Deep.RegionHeld3
import Derived.Deep.QuietTactic
import Derived.BigQuiet
import Derived.OneCell
import Derived.Laws.Bits128
namespace Go.Proofs.Ytehnbalbpfmijaa
open Go.RowKit
set_option linter.unusedVariables false

def fcX (zs : List Int) : Nat := loB (setZ zs) 64 0 % 8
def fcY (zs : List Int) : Nat := loB (setZ zs) 64 0 / 8
structure FcOk (zs : List Int) : Prop where
  ok : regOkB zs = true
  c0 : 0 < (cellsTo (setZ zs) 64).length
  x : dx (cellsTo (setZ zs) 64) 0 = (fcX zs : Int)
  y : dy (cellsTo (setZ zs) 64) 0 = (fcY zs : Int)
  x6 : fcX zs ≤ 6
  y7 : fcY zs ≤ 7
  k1 : regOkB (offRow zs (fcX zs) (fcY zs)) = true
  k2 : regOkB (offDom zs (fcX zs) (fcY zs)) = true
  h1 : hasB (setZ zs) (fcX zs) (fcY zs) = true
  h2 : hasB (setZ zs) (fcX zs + 1) (fcY zs) = true
  pz : profZ (setZ (offDom zs (fcX zs) (fcY zs))) ≠ 0
/-- Whether the next n dominoes may lie across, with nothing left then. -/
def chkR : Nat → List Int → Bool
  | 0, zs => regOkB zs && decide ((cellsTo (setZ zs) 64).length = 0)
  | n + 1, zs => (regOkB zs && decide (0 < (cellsTo (setZ zs) 64).length) && (dx (cellsTo (setZ zs) 64) 0 == (fcX zs : Int)) && (dy (cellsTo (setZ zs) 64) 0 == (fcY zs : Int)) && decide (fcX zs ≤ 6) && decide (fcY zs ≤ 7) && regOkB (offRow zs (fcX zs) (fcY zs)) && regOkB (offDom zs (fcX zs) (fcY zs)) && hasB (setZ zs) (fcX zs) (fcY zs) && hasB (setZ zs) (fcX zs + 1) (fcY zs)) && (decide (nCell (setZ (offDom zs (fcX zs) (fcY zs))) 64 ≤ 37) && wayB (setZ (offDom zs (fcX zs) (fcY zs))) 64 0 0) && chkR n (offDom zs (fcX zs) (fcY zs))
theorem chkR_step {n : Nat} {zs : List Int} (h : chkR (n + 1) zs = true) : FcOk zs ∧ chkR n (offDom zs (fcX zs) (fcY zs)) = true := by
  rw [chkR, Bool.and_eq_true, Bool.and_eq_true] at h
  obtain ⟨⟨h1, h2⟩, h3⟩ := h
  simp only [Bool.and_eq_true, decide_eq_true_eq, beq_iff_eq] at h1
  obtain ⟨⟨⟨⟨⟨⟨⟨⟨⟨a, b⟩, c⟩, d⟩, e⟩, f⟩, g⟩, i⟩, j⟩, k⟩ := h1
  exact ⟨⟨a, b, c, d, e, f, g, i, j, k, way_some h2⟩, h3⟩
def fstL : Nat → List Int → List Lk
  | 0, _ => []
  | n + 1, zs => ((fcX zs : Int), (fcY zs : Int), false) :: fstL n (offDom zs (fcX zs) (fcY zs))
theorem fstL_len : ∀ n zs, (fstL n zs).length = n
  | 0, _ => rfl
  | n + 1, zs => by rw [fstL, List.length_cons, fstL_len n]
/-- A reading goes on where its block stays. -/
theorem RdI.kept {w w' : World} {B n c : Nat} {A : Option Addr} {zs : List Int} (h : RdI w B (.slice A n c) zs) (hk : ∀ ad, A = some ad → w'.heap[ad.block]? = w.heap[ad.block]?) : RdI w' B (.slice A n c) zs := by
  obtain ⟨A', c', he, h1, h2, h3⟩ := h
  simp only [Value.slice.injEq] at he
  obtain ⟨rfl, rfl, rfl⟩ := he
  refine ⟨_, _, rfl, h1, h2, fun hne => ?_⟩
  obtain ⟨ad, e, hb, hc⟩ := h3 hne
  refine ⟨ad, e, hb, fun j u hu => (World.cell?_of_block (a := ad.add j) ?_).trans (hc j u hu)⟩
  rw [addBlock]; exact hk ad e
/-- The rest, and what is laid. -/
structure FT (w wr : World) (lo p5 : Nat) (u : Value) (zs : List Int) (o : Value) (ds : List Lk) : Prop where
  blk : wr.heap[p5]? = some (.cells #[u] 39 (0, 0))
  rd : RdI wr wr.heap.size u zs
  acc : Acc elDomino w w.heap.size wr o ds
  np : ∀ g, o.ownBlock = some g → g ≠ p5
  sep : ∀ g, o.ownBlock = some g → u.ownBlock ≠ some g
  l5 : w.heap.size ≤ p5
  ub : ∀ g, u.ownBlock = some g → g < wr.heap.size
theorem own_slice {A : Option Addr} {n c : Nat} : (Value.slice A n c).ownBlock = A.map Addr.block := by cases A <;> rfl
theorem FT.below {w wr w1 : World} {lo p5 : Nat} {u o : Value} {zs : List Int} {ds : List Lk} (h : FT w wr lo p5 u zs o ds) (hb : Below wr.heap.size wr w1) : FT w w1 lo p5 u zs o ds :=
  ⟨blk_below h.blk hb, (h.rd.below hb).more hb.size, h.acc.below hb, h.np, h.sep, h.l5, fun g hg => Nat.lt_of_lt_of_le (h.ub g hg) hb.size⟩
/-- The rest is set anew. -/
theorem FT.rest {w wr : World} {lo p5 L : Nat} {u u' o : Value} {zs zs' : List Int} {ds : List Lk} (h : FT w wr lo p5 u zs o ds) (hu : OwnI wr L u' zs') (hL : ∀ g, o.ownBlock = some g → g < L) (h5 : p5 < L) : FT w (wr.setCell ⟨p5, 0, none⟩ u') lo p5 u' zs' o ds := by
  obtain ⟨A, c, rfl, _, _, _⟩ := hu.rd
  refine ⟨(blk_setCell h.blk _).trans (by simp), ?_, ⟨h.acc.1.same fun k hk => Below.heap_setCell _ _ _ _ (by show k ≠ p5; exact h.np k hk), h.acc.2.1.setCell h.l5 _, h.acc.2.2.1, by simpa using h.acc.2.2.2⟩, h.np, fun g hg e => ?_, h.l5, fun g hg => by simpa using (hu.lt g hg).2⟩
  · have := (hu.setCell (p := ⟨p5, 0, none⟩) h5 (.slice A zs'.length c)).rd
    simpa using this
  · have h1 := hL g hg
    have h2 := (hu.lt g e).1
    omega
theorem FT.push {w wr w2 : World} {lo p5 : Nat} {u o o' : Value} {zs : List Int} {ds ds' : List Lk} (h : FT w wr lo p5 u zs o ds) (HA : Acc elDomino w w.heap.size w2 o' ds') (HG : Grew wr w2 o o') : FT w w2 lo p5 u zs o' ds' := by
  obtain ⟨g1, g, g2, g3, g4⟩ := HG
  have h5 := lt_of_block h.blk
  obtain ⟨A, c, rfl, q1, q2, q3⟩ := id h.rd
  have hb : ∀ k, k < wr.heap.size → o.ownBlock ≠ some k → w2.heap[k]? = wr.heap[k]? := fun k k1 k2 => g1.block k k1 fun e => k2 e.symm
  refine ⟨(hb p5 h5 fun e => h.np p5 e rfl).trans h.blk, ?_, HA, fun k hk => ?_, fun k hk e => ?_, h.l5, fun g hg => Nat.lt_of_lt_of_le (h.ub g hg) g1.size⟩
  · refine (h.rd.kept fun ad had => ?_).more g1.size
    have ho : (Value.slice A zs.length c).ownBlock = some ad.block := by rw [own_slice, had]; rfl
    exact hb _ (h.ub _ ho) fun e => h.sep _ e ho
  · rw [g2] at hk
    obtain rfl := Option.some.inj hk
    rcases g3 with g3 | g3
    · exact h.np g g3
    · omega
  · rw [g2] at hk
    obtain rfl := Option.some.inj hk
    rcases g3 with g3 | g3
    · exact h.sep g g3 e
    · have := h.ub g e; omega

set_option maxRecDepth 100000 in
set_option maxHeartbeats 2000000 in
theorem FirstTiling_yes (v : Value) (zs : List Int) (B : Nat) (w : World) (h : RdI w B v zs) (hB : B ≤ w.heap.size) (hz : zs ≠ []) (n : Nat) (hn : n ≤ 32) (hok : regOkB zs = true) (hp : profZ (setZ zs) ≠ 0) (hc : chkR n zs = true) :
    Calls Try.prog 132 #[.agg #[v]] w fun e w' => ∃ u, e = .returned (.tuple #[u, .bool true]) ∧ OwnF elDomino w' w.heap.size u (fstL n zs) ∧ Below w.heap.size w w' := by
  have HCT := Lib.hid (fun V (hV : Below w.heap.size w V) => specCountTilings_yes v zs B V (h.below (hV.mono hB)) (Nat.le_trans hB hV.size) hok)
  have hpz : (profZ (setZ zs) == 0) = false := by rw [beq_eq_false_iff_ne]; exact hp
  generalize profZ (setZ zs) = p at *
  have HV := Lib.hid (h.more hB)
  have HUB : Hid (∀ g, v.ownBlock = some g → g < w.heap.size) := by
    obtain ⟨A, c, rfl, _, _, h3⟩ := id h
    intro g hg
    obtain ⟨ad, e, hb, _⟩ := h3 (by simpa using hz)
    rw [own_slice, e] at hg
    simp only [Option.map_some, Option.some.injEq] at hg
    omega
  obtain ⟨TT, HTT⟩ : ∃ TT, Hid (fstL n zs = TT) := ⟨_, rfl⟩
  have HC0 := Lib.hid hc
  have HTL : Hid (TT.length = n) := by unfold Hid; rw [← HTT.out]; exact fstL_len n zs
  rw [HTT.out]
  obtain ⟨A, c, rfl, g1, g2, _⟩ := h
  unfold maxLen at g2
  obtain ⟨W, hW, k0, k1, hb0⟩ := two_alloc w (.cells #[.slice A zs.length c] 39) (.cells #[] 46)
  have c0 : W.cell? ⟨w.heap.size, 0, none⟩ = some (.slice A zs.length c) := by rw [blk_cell k0]; rfl
  have HK0 := Lib.hid k0
  have HB0 := Lib.hid hb0
  have HA0 : Hid (Acc elDomino w w.heap.size W (.slice (some ⟨w.heap.size + 1, 0, none⟩) 0 0) []) := ⟨⟨by simp, .inr ⟨_, 0, #[], rfl, Nat.le_succ _, k1, Nat.le_refl _, by simp [maxLen], by simp, by simp⟩⟩, hb0, Nat.le_refl _, hb0.size⟩
  have HWS : Hid (W.heap.size = w.heap.size + 2) := by unfold Hid; rw [hW]; simp
  clear hp hc hok hz k1
  go_enter Try.func132, Try.ntmps132
  go_upto_region 2 with (fail)
  rw [← hW]
  clear hW k0 hb0
  go_wp2_with fail
  refine (HCT.out W HB0.out).mono ?_
  rintro e w1 ⟨rfl, hb1⟩
  have HB1 := Lib.hid (HB0.out.trans (hb1.mono HB0.out.size))
  have HA1 := Lib.hid (HA0.out.below hb1)
  have HK1 := Lib.hid (blk_below HK0.out hb1)
  have hs1 := hb1.size
  have c1 : w1.cell? ⟨w.heap.size, 0, none⟩ = some (.slice A zs.length c) := by rw [blk_cell HK1.out]; rfl
  obtain ⟨V1, hV1, k5, hbv⟩ := one_alloc w1 (.cells #[.slice A zs.length c] 39)
  have HBV := Lib.hid (HB1.out.trans (hbv.mono HB1.out.size))
  have HFT : Hid (FT w V1 0 w1.heap.size (.slice A zs.length c) zs (.slice (some ⟨w.heap.size + 1, 0, none⟩) 0 0) []) := by
    have hws := HWS.out
    refine ⟨k5, (HV.out.below HBV.out).more HBV.out.size, HA1.out.below hbv, fun g hg => ?_, fun g hg e => ?_, by omega, fun g hg => Nat.lt_of_lt_of_le (HUB.out g hg) HBV.out.size⟩
    · simp only [Value.ownBlock, Option.some.injEq] at hg; omega
    · have := HUB.out g e
      simp only [Value.ownBlock, Option.some.injEq] at hg; omega
  have HV1 := Lib.hid hV1
  clear hb1 c0 hV1 k5 hbv hs1
  go_wp2_with fail
  rw [← HV1.out]
  clear c1 HV1
  go_loopg [4] n (fun gk o wr => ∃ (u x : Value) (ys : List Int) (ds : List Lk), x = o ∧ Hid (chkR gk ys = true) ∧ Hid (FT w wr 0 w1.heap.size u ys x ds) ∧ Hid (ds ++ fstL gk ys = TT))
  case atStart => exact ⟨_, _, zs, [], rfl, HC0, HFT, HTT.out⟩
  case round =>
    obtain ⟨u, x, ys, ds, rfl, HCK, HF, HD⟩ := hrel
    obtain ⟨Au, cu, hu, r1, r2, _⟩ := id HF.out.rd
    subst hu
    unfold maxLen at r2
    have m5 := cell_of_one HF.out.blk
    have hokr : regOkB ys = true := by
      cases gk with
      | zero => have := HCK.out; rw [chkR, Bool.and_eq_true] at this; exact this.1
      | succ k => exact (chkR_step HCK.out).1.ok
    have HCC := Lib.hid (CountCells_yes _ ys _ wr HF.out.rd (Nat.le_refl _) hokr)
    have HCL := Lib.hid (cellsTo_len (setZ ys) 64)
    obtain ⟨A9, c9, hv9, q9, q10, _⟩ := HF.out.acc.1.rd okDomino
    subst hv9
    unfold maxLen at q10
    cases gk with
    | zero =>
      have h0 : (cellsTo (setZ ys) 64).length = 0 := by have := HCK.out; rw [chkR, Bool.and_eq_true, decide_eq_true_eq] at this; exact this.2
      have hn0 : cntB (setZ ys) 64 = 0 := by rw [← HCL.out]; exact h0
      rw [hn0] at HCC
      have HDE : Hid (ds = TT) := by have := HD.out; rw [fstL, List.append_nil] at this; exact this
      clear h0 hn0 hokr
      go_wp2_with fail
      refine HCC.out.mono ?_
      rintro e w2 ⟨rfl, hb2⟩
      have HF2 := Lib.hid (HF.out.below hb2)
      clear hb2 HCC m5
      go_wp2_with fail
      refine bodyPost_ret (v := .tuple #[.slice A9 ds.length c9, .bool true]) (by simp [results, Try.results132, go_sem]) rfl ⟨_, rfl, ?_, HF2.out.acc.2.1⟩
      rw [← HDE.out]
      exact HF2.out.acc.1
    | succ gk =>
      obtain ⟨hfc, hnx⟩ := chkR_step HCK.out
      have HNX := Lib.hid hnx
      obtain ⟨_, k2, k3, k4, k5, k6, k7, k8, k9, k10, k11⟩ := hfc
      clear HCK
      have hN : decide (0 < cntB (setZ ys) 64) = true := by rw [decide_eq_true_eq, ← HCL.out]; exact k2
      have HDS : Hid ((ds ++ [((fcX ys : Int), (fcY ys : Int), false)]) ++ fstL gk (offDom ys (fcX ys) (fcY ys)) = TT) := by have := HD.out; rw [fstL] at this; unfold Hid; rw [← this]; simp
      generalize fcX ys = fx at *
      generalize fcY ys = fy at *
      have hdl : ds.length ≤ 32 := by have h1 := HTL.out; have h2 := HD.out; rw [← h2, List.length_append, fstL_len] at h1; omega
      have HCO := Lib.hid (fun V (hV : Below wr.heap.size wr V) => CellsOf_list _ ys _ V (HF.out.rd.below hV) hV.size hokr)
      have HCW := Lib.hid (fun V (hV : Below wr.heap.size wr V) => CountWith_yes _ ys _ V (HF.out.rd.below hV) hV.size hokr (fx) (fy) k5 k6 k7 k8 k9 k10)
      have hdm : domB (fx : Int) (fy : Int) false = true := (domB_iff _ _ _).2 ⟨by omega, by simp; omega⟩
      have HCU := Lib.hid (fun V => CellsUnder_yes (fx : Int) (fy : Int) false V hdm)
      have hsx : sndX (fx : Int) false = ((fx + 1 : Nat) : Int) := by unfold sndX; simp; unfold wrap64; omega
      have hsy : sndY (fy : Int) false = (fy : Int) := by unfold sndY; simp
      rw [hsx, hsy] at HCU
      have HW1 := Lib.hid (fun V (hV : Below wr.heap.size wr V) => WithCell_off _ ys _ V (HF.out.rd.below hV) hV.size hokr fx fy (Nat.le_succ_of_le k5) k6)
      have HW2 := Lib.hid (fun u V (hu : RdI V V.heap.size u (offRow ys (fx) (fy))) => WithCell_off u (offRow ys (fx) (fy)) V.heap.size V hu (Nat.le_refl _) k7 (fx + 1) fy (Nat.succ_le_succ k5) k6)
      have HOD : Hid (offRow (offRow ys (fx) (fy)) (fx + 1) (fy) = offDom ys (fx) (fy)) := rfl
      rw [HOD.out] at HW2
      have hpf : (profZ (setZ (offDom ys (fx) (fy))) == 0) = false := by rw [beq_eq_false_iff_ne]; exact k11
      generalize profZ (setZ (offDom ys (fx) (fy))) = pf at *
      generalize offDom ys (fx) (fy) = zs2 at *
      generalize offRow ys (fx) (fy) = zs1 at *
      generalize cellsTo (setZ ys) 64 = cs at *
      generalize cntB (setZ ys) 64 = N at *
      obtain ⟨X, HX⟩ : ∃ X : Int, Hid ((fx : Int) = X) := ⟨_, rfl⟩
      obtain ⟨X1, HX1⟩ : ∃ X1 : Int, Hid (((fx + 1 : Nat) : Int) = X1) := ⟨_, rfl⟩
      obtain ⟨Y, HY⟩ : ∃ Y : Int, Hid ((fy : Int) = Y) := ⟨_, rfl⟩
      rw [HX.out, HY.out] at HDS HCW HW1
      rw [HX.out, HY.out, HX1.out] at HCU
      rw [HX1.out, HY.out] at HW2
      rw [HX.out] at k3
      rw [HY.out] at k4
      have HC3 := Lib.hid k3; have HC4 := Lib.hid k4
      clear k3 k4 k5 k6 k7 k8 k9 k10 k11 hdm hsx hsy hokr hnx HOD HX HX1 HY HD HCL
      go_wp2_with fail
      refine HCC.out.mono ?_
      rintro e w2 ⟨rfl, hb2⟩
      have HB2 : Hid (Below wr.heap.size wr w2) := hb2
      have m5 : w2.cell? ⟨w1.heap.size, 0, none⟩ = some (.slice Au ys.length cu) := cell_of_one (blk_below HF.out.blk HB2.out)
      clear hb2 HCC
      go_wp2_with fail
      refine (HCO.out w2 HB2.out).mono ?_
      rintro e w3 ⟨u3, rfl, ho3, hb3⟩
      have HB3 := Lib.hid (HB2.out.trans (hb3.mono HB2.out.size))
      obtain ⟨A3, c3, hu3, q3, q4, G9⟩ := RdD.of (E := elCell) rfl (fun _ => rfl) (ho3.rd okCell)
      subst hu3
      unfold maxLen at q4
      obtain ⟨ad, rfl, hbl, hcx, hcy⟩ := G9.out 0 k2
      rw [Nat.zero_mul, Addr.add_zero'] at hcx hcy
      rw [HC3.out] at hcx
      rw [HC4.out] at hcy
      have k2' : (0 : Int) < (cs.length : Int) := by omega
      obtain ⟨V4, hV4, p4, hb4⟩ := one_alloc w3 (.cells #[.int .i64 X, .int .i64 Y] 44)
      have n0 : V4.cell? ⟨w3.heap.size, 0, none⟩ = some (.int .i64 X) := by rw [blk_cell p4]; rfl
      have n1 : V4.cell? ⟨w3.heap.size, 1, none⟩ = some (.int .i64 Y) := by rw [blk_cell p4]; rfl
      have HB4 := Lib.hid (HB3.out.trans (hb4.mono HB3.out.size))
      have hvs : V4.heap.size = w3.heap.size + 1 := by rw [hV4]; simp
      obtain ⟨V5, hV5, p5, hb5⟩ := one_alloc V4 (triO X Y false 46)
      have HB5 := Lib.hid (HB4.out.trans (hb5.mono HB4.out.size))
      rw [hvs] at p5
      obtain ⟨t0, t1, t2⟩ := tri_cells p5
      have m55 : V5.cell? ⟨w1.heap.size, 0, none⟩ = some (.slice Au ys.length cu) := cell_of_one (blk_below HF.out.blk HB5.out)
      have HP5 := Lib.hid p5
      have HV4 := Lib.hid hV4; have HV5 := Lib.hid hV5
      rw [hV5, hV4] at t0 t1 t2 m55
      rw [hV4] at n0 n1
      have HVS := Lib.hid hvs
      clear hvs
      clear hV4 hV5 p4 p5 hb3 hb4 hb5 m5
      go_wp2_with fail
      rw [← HV4.out, ← HV5.out]
      clear n0 n1 t0 t1 t2 m55 HV4 HV5 hcx hcy hbl
      refine (HCW.out V5 HB5.out).mono ?_
      rintro e w6 ⟨rfl, hb6⟩
      have HB6 := Lib.hid (HB5.out.trans (hb6.mono HB5.out.size))
      have HP6 := Lib.hid (blk_below HP5.out hb6)
      obtain ⟨t0, t1, t2⟩ := tri_cells HP6.out
      clear hb6
      go_wp2_with fail
      refine (HCU.out w6).mono ?_
      rintro e w7 ⟨rfl, hb7⟩
      have HB7 := Lib.hid (HB6.out.trans (hb7.mono HB6.out.size))
      have HP7 := Lib.hid (blk_below HP6.out hb7)
      obtain ⟨V7, hV7, pa, pb, hbv7⟩ := two_alloc w7 (.cells #[.int .i64 X, .int .i64 Y] 44) (.cells #[.int .i64 X1, .int .i64 Y] 44)
      have HBV7 := Lib.hid (HB7.out.trans (hbv7.mono HB7.out.size))
      have HPV := Lib.hid (blk_below HP7.out hbv7)
      have HPB := Lib.hid pb
      have n0 : V7.cell? ⟨w7.heap.size, 0, none⟩ = some (.int .i64 X) := by rw [blk_cell pa]; rfl
      have n1 : V7.cell? ⟨w7.heap.size, 1, none⟩ = some (.int .i64 Y) := by rw [blk_cell pa]; rfl
      have m5 : V7.cell? ⟨w1.heap.size, 0, none⟩ = some (.slice Au ys.length cu) := cell_of_one (blk_below HF.out.blk HBV7.out)
      have HV7 := Lib.hid hV7
      rw [hV7] at n0 n1 m5
      clear hV7 pa pb hbv7 hb7 t0 t1 t2
      go_wp2_with fail
      rw [← HV7.out]
      clear n0 n1 m5 HV7
      refine (HW1.out V7 HBV7.out).mono ?_
      rintro e w8 ⟨u8, rfl, ho8, hb8⟩
      have HB8 := Lib.hid (HBV7.out.trans (hb8.mono HBV7.out.size))
      have HF8 := Lib.hid (HF.out.below HB8.out)
      have h5lt := lt_of_block HF.out.blk
      have hVs := HBV7.out.size
      have HF9 := Lib.hid (HF8.out.rest ho8 (fun g hg => by have := (HF.out.acc.1.lt g hg).2; omega) (by omega))
      obtain ⟨W9, HW9⟩ : ∃ W9, Hid (W9 = w8.setCell ⟨w1.heap.size, 0, none⟩ u8) := ⟨_, rfl⟩
      rw [← HW9.out] at HF9
      have f5 := free_of_one HF8.out.blk
      have c5 := cell_of_one HF8.out.blk
      have HPB8 := Lib.hid (blk_below HPB.out hb8)
      have HPV8 := Lib.hid (blk_below HPV.out hb8)
      have hbn : w7.heap.size + 1 ≠ w1.heap.size := by have := HB7.out.size; omega
      have hpn : w3.heap.size + 1 ≠ w1.heap.size := by have := HB3.out.size; omega
      have HPB9 : Hid (W9.heap[w7.heap.size + 1]? = some (.cells #[.int .i64 X1, .int .i64 Y] 44 (0, 0))) := by rw [HW9.out]; exact (Below.heap_setCell _ _ _ _ (by show w7.heap.size + 1 ≠ w1.heap.size; exact hbn)).trans HPB8.out
      have HPV9 : Hid (W9.heap[w3.heap.size + 1]? = some (triO X Y false 46)) := by rw [HW9.out]; exact (Below.heap_setCell _ _ _ _ (by show w3.heap.size + 1 ≠ w1.heap.size; exact hpn)).trans HPV8.out
      obtain ⟨A8, c8, rfl, _, _, _⟩ := ho8.rd
      have n0 : W9.cell? ⟨w7.heap.size + 1, 0, none⟩ = some (.int .i64 X1) := by rw [blk_cell HPB9.out]; rfl
      have n1 : W9.cell? ⟨w7.heap.size + 1, 1, none⟩ = some (.int .i64 Y) := by rw [blk_cell HPB9.out]; rfl
      have m5 : W9.cell? ⟨w1.heap.size, 0, none⟩ = some (.slice A8 zs1.length c8) := cell_of_one HF9.out.blk
      rw [HW9.out] at n0 n1 m5
      clear ho8 hb8
      go_wp2_with fail
      rw [← HW9.out]
      clear n0 n1 m5 HW9 f5 c5
      refine (HW2.out _ W9 HF9.out.rd).mono ?_
      rintro e w10 ⟨u10, rfl, ho10, hb10⟩
      have HF10 := Lib.hid (HF9.out.below hb10)
      have HF11 := Lib.hid (HF10.out.rest ho10 (fun g hg => (HF9.out.acc.1.lt g hg).2) (lt_of_block HF9.out.blk))
      obtain ⟨W11, HW11⟩ : ∃ W11, Hid (W11 = w10.setCell ⟨w1.heap.size, 0, none⟩ u10) := ⟨_, rfl⟩
      rw [← HW11.out] at HF11
      have f5 := free_of_one HF10.out.blk
      have c5 := cell_of_one HF10.out.blk
      have HPV11 : Hid (W11.heap[w3.heap.size + 1]? = some (triO X Y false 46)) := by rw [HW11.out]; exact (Below.heap_setCell _ _ _ _ (by show w3.heap.size + 1 ≠ w1.heap.size; exact hpn)).trans (blk_below HPV9.out hb10)
      obtain ⟨t0, t1, t2⟩ := tri_cells HPV11.out
      obtain ⟨A10, c10, rfl, _, _, _⟩ := ho10.rd
      have HF11b := HF11
      rw [HW11.out] at t0 t1 t2 HF11b
      clear ho10 hb10
      go_wp2_with (at_builtin; refine wpList_push okDomino rfl _ _ rfl HF11b.out.acc rfl (X, Y, false) _ rfl w10.heap.size rfl (by simp) (by omega) ?_; intro v12 w12 HA12 HG12)
      have HF12 := Lib.hid (HF11b.out.push HA12.out HG12.out)
      go_roundg gk
      case measure => omega
      case rel => exact ⟨_, _, _, _, rfl, HNX, HF12, HDS⟩
end Go.Proofs.Ytehnbalbpfmijaa

namespace Go.Proofs.Ytehnbalbpfmijaa
open Go.RowKit
set_option linter.unusedVariables false

theorem tri_put {w : World} {b : Nat} {x0 y0 : Int} {d0 : Bool} {t : TypeId} (k : w.heap[b]? = some (triO x0 y0 d0 t)) (x y : Int) (d : Bool) : (((w.setCell ⟨b, 0, none⟩ (.int .i64 x)).setCell ⟨b, 1, none⟩ (.int .i64 y)).setCell ⟨b, 2, none⟩ (.bool d)).heap[b]? = some (triO x y d t) :=
  blk_setCell (k := 2) (blk_setCell (k := 1) (blk_setCell (k := 0) k (.int .i64 x)) (.int .i64 y)) (.bool d)
theorem tri_oth {w : World} {a b : Nat} (h : a ≠ b) (u v z : Value) : (((w.setCell ⟨b, 0, none⟩ u).setCell ⟨b, 1, none⟩ v).setCell ⟨b, 2, none⟩ z).heap[a]? = w.heap[a]? :=
  (Below.heap_setCell _ _ _ _ (by show a ≠ b; exact h)).trans ((Below.heap_setCell _ _ _ _ (by show a ≠ b; exact h)).trans (Below.heap_setCell _ _ _ _ (by show a ≠ b; exact h)))
theorem drew_blk (U : World) (a : Nat) : U.drew.heap[a]? = U.heap[a]? := rfl
theorem tri_stores {w V : World} {a b : Nat} {x y x' y' p q p' q' : Int} {d d' e e' : Bool} {ty : TypeId} (K1 : V.heap[a]? = some (triO p q e ty)) (K2 : V.heap[b]? = some (triO p' q' e' ty)) (hab : a ≠ b) (ha : w.heap.size ≤ a) (hb : w.heap.size ≤ b) (HB : Below w.heap.size w V) :
    ∀ X, X = ((((((V.setCell ⟨a, 0, none⟩ (.int .i64 x)).setCell ⟨a, 1, none⟩ (.int .i64 y)).setCell ⟨a, 2, none⟩ (.bool d)).setCell ⟨b, 0, none⟩ (.int .i64 x')).setCell ⟨b, 1, none⟩ (.int .i64 y')).setCell ⟨b, 2, none⟩ (.bool d')).drew →
      X.heap[a]? = some (triO x y d ty) ∧ X.heap[b]? = some (triO x' y' d' ty) ∧ Below w.heap.size w X := by
  intro X hX
  rw [hX]
  clear hX
  have h1 := (tri_oth hab (.int .i64 x') (.int .i64 y') (.bool d')).trans (tri_put K1 x y d)
  have h2 := tri_put ((tri_oth (Ne.symm hab) (.int .i64 x) (.int .i64 y) (.bool d)).trans K2) x' y' d'
  refine ⟨(drew_blk _ _).trans h1, (drew_blk _ _).trans h2, ((((((HB.setCell (p := ⟨a, 0, none⟩) ha _).setCell (p := ⟨a, 1, none⟩) ha _).setCell (p := ⟨a, 2, none⟩) ha _).setCell (p := ⟨b, 0, none⟩) hb _).setCell (p := ⟨b, 1, none⟩) hb _).setCell (p := ⟨b, 2, none⟩) hb _).drew⟩
/-- The other domino of a pair. -/
def othX (x : Int) (d : Bool) : Int := if d then x + 1 else x
def othY (y : Int) (d : Bool) : Int := if d then y else y + 1

set_option maxRecDepth 100000 in
set_option maxHeartbeats 1000000 in
theorem l11Pair_yes (x y : Int) (d : Bool) (hx : 0 ≤ x ∧ x ≤ 6) (hy : 0 ≤ y ∧ y ≤ 6) (w : World) :
    Calls Try.prog 115 #[spotV x y, .bool d] w fun e w' => e = .returned (.tuple #[triV x y d, triV (othX x d) (othY y d) d]) ∧ Below w.heap.size w w' := by
  obtain ⟨hx0, hx1⟩ := hx
  obtain ⟨hy0, hy1⟩ := hy
  cases d
  · have hw1 : IntKind.i64.wrap (y + 1) = y + 1 := IntWalk.i64_in _ (by omega)
    have hw2 : wrap64 (y + 1) = y + 1 := IntWalk.wrap64_in _ (by omega)
    go_enter Try.func115, Try.ntmps115
    go_wp2_with fail
    obtain ⟨W, hW, k0, k1, k2, hb⟩ := three_alloc w (.cells #[.int .i64 x, .int .i64 y] 44) (triO 0 0 false 46) (triO 0 0 false 46)
    rw [← hW]
    have c0 : W.drew.cell? ⟨w.heap.size, 0, none⟩ = some (.int .i64 x) := by show W.cell? _ = _; rw [blk_cell k0]; rfl
    have c1 : W.drew.cell? ⟨w.heap.size, 1, none⟩ = some (.int .i64 y) := by show W.cell? _ = _; rw [blk_cell k0]; rfl
    obtain ⟨d0, d1, d2⟩ := tri_cells k1
    obtain ⟨e0, e1, e2⟩ := tri_cells k2
    have f0 : ∀ o, W.frozen? ⟨w.heap.size + 1, o, none⟩ = false := fun o => blk_free k1
    have f2 : ∀ o, W.frozen? ⟨w.heap.size + 1 + 1, o, none⟩ = false := fun o => blk_free k2
    have g0 : W.cell? ⟨w.heap.size, 0, none⟩ = some (.int .i64 x) := by rw [blk_cell k0]; rfl
    have g1 : W.cell? ⟨w.heap.size, 1, none⟩ = some (.int .i64 y) := by rw [blk_cell k0]; rfl
    have T1 := Lib.hid (tri_stores (w := w) (V := W) (x := x) (y := y) (d := false) (x' := x) (y' := (y + 1)) (d' := false) k1 k2 (by omega) (by omega) (by omega) hb)
    clear hW k0 k1 k2 hb
    refine wp_region_held_drew (S := fun w' => w'.cell? ⟨w.heap.size, 0, none⟩ = some (.int .i64 x) ∧ w'.cell? ⟨w.heap.size, 1, none⟩ = some (.int .i64 y)) (by kernel_rfl) (by exact ⟨c0, c1⟩) (fun hHeld => ?_)
    refine wpAnyH_take (i := 0) (oi := ⟨_, _, _, _, _, _⟩) (v := ?vap31112q1n0) rfl (by kernel_rfl) (by kernel_rfl) (by kernel_rfl) (fun _ _ _ h => h) (Or.inl ⟨by rfl, ?hap31112q1n0⟩) (by assumption) ?_
    case hap31112q1n0 => (intro w hSw; (try dsimp only at hSw); go_simp; try with_reducible rfl)
    try simp only [Act.put, List.setIfInBounds_toArray, List.set_cons_zero, List.set_cons_succ]
    refine wpAnyH_take (i := 1) (oi := ⟨_, _, _, _, _, _⟩) (v := ?vap31112q2n1) rfl (by kernel_rfl) (by kernel_rfl) (by kernel_rfl) (fun _ _ _ h => h) (Or.inl ⟨by rfl, ?hap31112q2n1⟩) (by assumption) ?_
    case hap31112q2n1 => (intro w hSw; (try dsimp only at hSw); go_simp; try with_reducible rfl)
    try simp only [Act.put, List.setIfInBounds_toArray, List.set_cons_zero, List.set_cons_succ]
    refine wpAnyH_take (i := 2) (oi := ⟨_, _, _, _, _, _⟩) (v := ?vap31112q3n2) rfl (by kernel_rfl) (by kernel_rfl) (by kernel_rfl) (fun _ _ _ h => h) (Or.inl ⟨by rfl, ?hap31112q3n2⟩) (by assumption) ?_
    case hap31112q3n2 => (intro w hSw; (try dsimp only at hSw); go_simp; try with_reducible rfl)
    try simp only [Act.put, List.setIfInBounds_toArray, List.set_cons_zero, List.set_cons_succ]
    refine wpAnyH_take (i := 3) (oi := ⟨_, _, _, _, _, _⟩) (v := ?vap31112q4n3) rfl (by kernel_rfl) (by kernel_rfl) (by kernel_rfl) (fun _ _ _ h => h) (Or.inl ⟨by rfl, ?hap31112q4n3⟩) (by assumption) ?_
    case hap31112q4n3 => (intro w hSw; (try dsimp only at hSw); go_simp; try with_reducible rfl)
    try simp only [Act.put, List.setIfInBounds_toArray, List.set_cons_zero, List.set_cons_succ]
    refine wpAnyH_take (i := 4) (oi := ⟨_, _, _, _, _, _⟩) (v := ?vap31112q5n4) rfl (by kernel_rfl) (by kernel_rfl) (by kernel_rfl) (fun _ _ _ h => h) (Or.inl ⟨by rfl, ?hap31112q5n4⟩) (by assumption) ?_
    case hap31112q5n4 => (intro w hSw; (try dsimp only at hSw); go_simp; try with_reducible rfl)
    try simp only [Act.put, List.setIfInBounds_toArray, List.set_cons_zero, List.set_cons_succ]
    refine wpAnyH_take (i := 5) (oi := ⟨_, _, _, _, _, _⟩) (v := ?vap31112q6n5) rfl (by kernel_rfl) (by kernel_rfl) (by kernel_rfl) (fun _ _ _ h => h) (Or.inl ⟨by rfl, ?hap31112q6n5⟩) (by assumption) ?_
    case hap31112q6n5 => (intro w hSw; (try dsimp only at hSw); go_simp; try with_reducible rfl)
    try simp only [Act.put, List.setIfInBounds_toArray, List.set_cons_zero, List.set_cons_succ]
    refine wpAnyH_take (i := 6) (oi := ⟨_, _, _, _, _, _⟩) (v := ?vap31112q7n6) rfl (by kernel_rfl) (by kernel_rfl) (by kernel_rfl) (fun _ _ _ h => h) (Or.inl ⟨by rfl, ?hap31112q7n6⟩) (by assumption) ?_
    case hap31112q7n6 => (intro w hSw; (try dsimp only at hSw); go_simp; try with_reducible rfl)
    try simp only [Act.put, List.setIfInBounds_toArray, List.set_cons_zero, List.set_cons_succ]
    refine wpAnyH_take (i := 7) (oi := ⟨_, _, _, _, _, _⟩) (v := ?vap31112q8n7) rfl (by kernel_rfl) (by kernel_rfl) (by kernel_rfl) (fun _ _ _ h => h) (Or.inl ⟨by rfl, ?hap31112q8n7⟩) (by assumption) ?_
    case hap31112q8n7 => (intro w hSw; (try dsimp only at hSw); go_simp; try with_reducible rfl)
    try simp only [Act.put, List.setIfInBounds_toArray, List.set_cons_zero, List.set_cons_succ]
    refine wpAnyH_take (i := 8) (oi := ⟨_, _, _, _, _, _⟩) (v := ?vap31112q9n8) rfl (by kernel_rfl) (by kernel_rfl) (by kernel_rfl) (fun _ _ _ h => h) (Or.inl ⟨by rfl, ?hap31112q9n8⟩) (by assumption) ?_
    case hap31112q9n8 => (intro w hSw; (try dsimp only at hSw); go_simp; try with_reducible rfl)
    try simp only [Act.put, List.setIfInBounds_toArray, List.set_cons_zero, List.set_cons_succ]
    refine wpAnyH_take (i := 9) (oi := ⟨_, _, _, _, _, _⟩) (v := ?vap31112q10n9) rfl (by kernel_rfl) (by kernel_rfl) (by kernel_rfl) (fun _ _ _ h => h) (Or.inl ⟨by rfl, ?hap31112q10n9⟩) (by assumption) ?_
    case hap31112q10n9 => (intro w hSw; (try dsimp only at hSw); go_simp; try with_reducible rfl)
    try simp only [Act.put, List.setIfInBounds_toArray, List.set_cons_zero, List.set_cons_succ]
    refine wpAnyH_take (i := 10) (oi := ⟨_, _, _, _, _, _⟩) (v := ?vap31112q11n10) rfl (by kernel_rfl) (by kernel_rfl) (by kernel_rfl) (fun _ _ _ h => h) (Or.inl ⟨by rfl, ?hap31112q11n10⟩) (by assumption) ?_
    case hap31112q11n10 => (intro w hSw; (try dsimp only at hSw); go_simp; try with_reducible rfl)
    try simp only [Act.put, List.setIfInBounds_toArray, List.set_cons_zero, List.set_cons_succ]
    refine wpAnyH_ready (rs := [11]) (by kernel_rfl) (by simp) ?_
    refine AllReadyH.cons (o := ⟨_, _, _, _, _, _⟩) rfl (fun K hK => ?_) AllReadyH.nil
    go_simp
    refine hK.out _ _ (by (obtain ⟨hq0, hq1⟩ := hHeld; refine ⟨?_, ?_⟩ <;> go_simp)) (fun hHeld => ?_)
    clear hK K
    try simp only [Act.put, List.setIfInBounds_toArray, List.set_cons_zero, List.set_cons_succ]
    refine wpAnyH_ready (rs := [12]) (by kernel_rfl) (by simp) ?_
    refine AllReadyH.cons (o := ⟨_, _, _, _, _, _⟩) rfl (fun K hK => ?_) AllReadyH.nil
    go_simp
    refine hK.out _ _ (by (obtain ⟨hq0, hq1⟩ := hHeld; refine ⟨?_, ?_⟩ <;> go_simp)) (fun hHeld => ?_)
    clear hK K
    try simp only [Act.put, List.setIfInBounds_toArray, List.set_cons_zero, List.set_cons_succ]
    refine wpAnyH_done (by kernel_rfl) ?_ _
    go_wp2_with fail
    generalize hX : World.drew _ = X
    obtain ⟨r0, r1, r4⟩ := T1.out X hX.symm
    obtain ⟨p0, p1, p2⟩ := tri_cells r0
    obtain ⟨q0, q1, q2⟩ := tri_cells r1
    refine bodyPost_ret (v := .tuple #[triV x y false, triV x (y + 1) false]) (by simp [results, Try.results115, go_sem, p0, p1, p2, q0, q1, q2]) rfl ⟨rfl, r4⟩
  · have hw1 : IntKind.i64.wrap (x + 1) = x + 1 := IntWalk.i64_in _ (by omega)
    have hw2 : wrap64 (x + 1) = x + 1 := IntWalk.wrap64_in _ (by omega)
    go_enter Try.func115, Try.ntmps115
    go_wp2_with fail
    obtain ⟨W, hW, k0, k1, k2, hb⟩ := three_alloc w (.cells #[.int .i64 x, .int .i64 y] 44) (triO 0 0 false 46) (triO 0 0 false 46)
    rw [← hW]
    have c0 : W.drew.cell? ⟨w.heap.size, 0, none⟩ = some (.int .i64 x) := by show W.cell? _ = _; rw [blk_cell k0]; rfl
    have c1 : W.drew.cell? ⟨w.heap.size, 1, none⟩ = some (.int .i64 y) := by show W.cell? _ = _; rw [blk_cell k0]; rfl
    obtain ⟨d0, d1, d2⟩ := tri_cells k1
    obtain ⟨e0, e1, e2⟩ := tri_cells k2
    have f0 : ∀ o, W.frozen? ⟨w.heap.size + 1, o, none⟩ = false := fun o => blk_free k1
    have f2 : ∀ o, W.frozen? ⟨w.heap.size + 1 + 1, o, none⟩ = false := fun o => blk_free k2
    have g0 : W.cell? ⟨w.heap.size, 0, none⟩ = some (.int .i64 x) := by rw [blk_cell k0]; rfl
    have g1 : W.cell? ⟨w.heap.size, 1, none⟩ = some (.int .i64 y) := by rw [blk_cell k0]; rfl
    have T1 := Lib.hid (tri_stores (w := w) (V := W) (x := x) (y := y) (d := true) (x' := (x + 1)) (y' := y) (d' := true) k1 k2 (by omega) (by omega) (by omega) hb)
    clear hW k0 k1 k2 hb
    refine wp_region_held_drew (S := fun w' => w'.cell? ⟨w.heap.size, 0, none⟩ = some (.int .i64 x) ∧ w'.cell? ⟨w.heap.size, 1, none⟩ = some (.int .i64 y)) (by kernel_rfl) (by exact ⟨c0, c1⟩) (fun hHeld => ?_)
    refine wpAnyH_take (i := 0) (oi := ⟨_, _, _, _, _, _⟩) (v := ?vap31113q1n0) rfl (by kernel_rfl) (by kernel_rfl) (by kernel_rfl) (fun _ _ _ h => h) (Or.inl ⟨by rfl, ?hap31113q1n0⟩) (by assumption) ?_
    case hap31113q1n0 => (intro w hSw; (try dsimp only at hSw); go_simp; try with_reducible rfl)
    try simp only [Act.put, List.setIfInBounds_toArray, List.set_cons_zero, List.set_cons_succ]
    refine wpAnyH_take (i := 1) (oi := ⟨_, _, _, _, _, _⟩) (v := ?vap31113q2n1) rfl (by kernel_rfl) (by kernel_rfl) (by kernel_rfl) (fun _ _ _ h => h) (Or.inl ⟨by rfl, ?hap31113q2n1⟩) (by assumption) ?_
    case hap31113q2n1 => (intro w hSw; (try dsimp only at hSw); go_simp; try with_reducible rfl)
    try simp only [Act.put, List.setIfInBounds_toArray, List.set_cons_zero, List.set_cons_succ]
    refine wpAnyH_take (i := 2) (oi := ⟨_, _, _, _, _, _⟩) (v := ?vap31113q3n2) rfl (by kernel_rfl) (by kernel_rfl) (by kernel_rfl) (fun _ _ _ h => h) (Or.inl ⟨by rfl, ?hap31113q3n2⟩) (by assumption) ?_
    case hap31113q3n2 => (intro w hSw; (try dsimp only at hSw); go_simp; try with_reducible rfl)
    try simp only [Act.put, List.setIfInBounds_toArray, List.set_cons_zero, List.set_cons_succ]
    refine wpAnyH_take (i := 3) (oi := ⟨_, _, _, _, _, _⟩) (v := ?vap31113q4n3) rfl (by kernel_rfl) (by kernel_rfl) (by kernel_rfl) (fun _ _ _ h => h) (Or.inl ⟨by rfl, ?hap31113q4n3⟩) (by assumption) ?_
    case hap31113q4n3 => (intro w hSw; (try dsimp only at hSw); go_simp; try with_reducible rfl)
    try simp only [Act.put, List.setIfInBounds_toArray, List.set_cons_zero, List.set_cons_succ]
    refine wpAnyH_take (i := 4) (oi := ⟨_, _, _, _, _, _⟩) (v := ?vap31113q5n4) rfl (by kernel_rfl) (by kernel_rfl) (by kernel_rfl) (fun _ _ _ h => h) (Or.inl ⟨by rfl, ?hap31113q5n4⟩) (by assumption) ?_
    case hap31113q5n4 => (intro w hSw; (try dsimp only at hSw); go_simp; try with_reducible rfl)
    try simp only [Act.put, List.setIfInBounds_toArray, List.set_cons_zero, List.set_cons_succ]
    refine wpAnyH_take (i := 5) (oi := ⟨_, _, _, _, _, _⟩) (v := ?vap31113q6n5) rfl (by kernel_rfl) (by kernel_rfl) (by kernel_rfl) (fun _ _ _ h => h) (Or.inl ⟨by rfl, ?hap31113q6n5⟩) (by assumption) ?_
    case hap31113q6n5 => (intro w hSw; (try dsimp only at hSw); go_simp; try with_reducible rfl)
    try simp only [Act.put, List.setIfInBounds_toArray, List.set_cons_zero, List.set_cons_succ]
    refine wpAnyH_take (i := 6) (oi := ⟨_, _, _, _, _, _⟩) (v := ?vap31113q7n6) rfl (by kernel_rfl) (by kernel_rfl) (by kernel_rfl) (fun _ _ _ h => h) (Or.inl ⟨by rfl, ?hap31113q7n6⟩) (by assumption) ?_
    case hap31113q7n6 => (intro w hSw; (try dsimp only at hSw); go_simp; try with_reducible rfl)
    try simp only [Act.put, List.setIfInBounds_toArray, List.set_cons_zero, List.set_cons_succ]
    refine wpAnyH_take (i := 7) (oi := ⟨_, _, _, _, _, _⟩) (v := ?vap31113q8n7) rfl (by kernel_rfl) (by kernel_rfl) (by kernel_rfl) (fun _ _ _ h => h) (Or.inl ⟨by rfl, ?hap31113q8n7⟩) (by assumption) ?_
    case hap31113q8n7 => (intro w hSw; (try dsimp only at hSw); go_simp; try with_reducible rfl)
    try simp only [Act.put, List.setIfInBounds_toArray, List.set_cons_zero, List.set_cons_succ]
    refine wpAnyH_take (i := 8) (oi := ⟨_, _, _, _, _, _⟩) (v := ?vap31113q9n8) rfl (by kernel_rfl) (by kernel_rfl) (by kernel_rfl) (fun _ _ _ h => h) (Or.inl ⟨by rfl, ?hap31113q9n8⟩) (by assumption) ?_
    case hap31113q9n8 => (intro w hSw; (try dsimp only at hSw); go_simp; try with_reducible rfl)
    try simp only [Act.put, List.setIfInBounds_toArray, List.set_cons_zero, List.set_cons_succ]
    refine wpAnyH_take (i := 9) (oi := ⟨_, _, _, _, _, _⟩) (v := ?vap31113q10n9) rfl (by kernel_rfl) (by kernel_rfl) (by kernel_rfl) (fun _ _ _ h => h) (Or.inl ⟨by rfl, ?hap31113q10n9⟩) (by assumption) ?_
    case hap31113q10n9 => (intro w hSw; (try dsimp only at hSw); go_simp; try with_reducible rfl)
    try simp only [Act.put, List.setIfInBounds_toArray, List.set_cons_zero, List.set_cons_succ]
    refine wpAnyH_take (i := 10) (oi := ⟨_, _, _, _, _, _⟩) (v := ?vap31113q11n10) rfl (by kernel_rfl) (by kernel_rfl) (by kernel_rfl) (fun _ _ _ h => h) (Or.inl ⟨by rfl, ?hap31113q11n10⟩) (by assumption) ?_
    case hap31113q11n10 => (intro w hSw; (try dsimp only at hSw); go_simp; try with_reducible rfl)
    try simp only [Act.put, List.setIfInBounds_toArray, List.set_cons_zero, List.set_cons_succ]
    refine wpAnyH_ready (rs := [11]) (by kernel_rfl) (by simp) ?_
    refine AllReadyH.cons (o := ⟨_, _, _, _, _, _⟩) rfl (fun K hK => ?_) AllReadyH.nil
    go_simp
    refine hK.out _ _ (by (obtain ⟨hq0, hq1⟩ := hHeld; refine ⟨?_, ?_⟩ <;> go_simp)) (fun hHeld => ?_)
    clear hK K
    try simp only [Act.put, List.setIfInBounds_toArray, List.set_cons_zero, List.set_cons_succ]
    refine wpAnyH_ready (rs := [12]) (by kernel_rfl) (by simp) ?_
    refine AllReadyH.cons (o := ⟨_, _, _, _, _, _⟩) rfl (fun K hK => ?_) AllReadyH.nil
    go_simp
    refine hK.out _ _ (by (obtain ⟨hq0, hq1⟩ := hHeld; refine ⟨?_, ?_⟩ <;> go_simp)) (fun hHeld => ?_)
    clear hK K
    try simp only [Act.put, List.setIfInBounds_toArray, List.set_cons_zero, List.set_cons_succ]
    refine wpAnyH_done (by kernel_rfl) ?_ _
    go_wp2_with fail
    generalize hX : World.drew _ = X
    obtain ⟨r0, r1, r4⟩ := T1.out X hX.symm
    obtain ⟨p0, p1, p2⟩ := tri_cells r0
    obtain ⟨q0, q1, q2⟩ := tri_cells r1
    refine bodyPost_ret (v := .tuple #[triV x y true, triV (x + 1) y true]) (by simp [results, Try.results115, go_sem, p0, p1, p2, q0, q1, q2]) rfl ⟨rfl, r4⟩
end Go.Proofs.Ytehnbalbpfmijaa

namespace Go.Proofs.Ytehnbalbpfmijaa
open Go.RowKit
set_option linter.unusedVariables false

theorem ret_num {a b : Int} (h : a = b) : Ending.returned (.int .i64 a) = .returned (.int .i64 b) := by rw [h]
theorem fst_iff (p : Nat → Bool) : ∀ (n k : Nat), 0 ≤ fstZ p n k ↔ ∃ i, k ≤ i ∧ i < k + n ∧ p i = true
  | 0, k => by
    rw [fstZ]
    exact ⟨fun h => by omega, fun ⟨i, h1, h2, _⟩ => by omega⟩
  | n + 1, k => by
    rw [fstZ]
    cases hp : p k
    · rw [if_neg (by simp), fst_iff p n (k + 1)]
      constructor
      · rintro ⟨i, h1, h2, h3⟩; exact ⟨i, by omega, by omega, h3⟩
      · rintro ⟨i, h1, h2, h3⟩
        have : i ≠ k := fun e => by rw [e, hp] at h3; simp at h3
        exact ⟨i, by omega, by omega, h3⟩
    · rw [if_pos rfl]
      exact ⟨fun _ => ⟨k, Nat.le_refl _, by omega, hp⟩, fun _ => by omega⟩
theorem hasL_iff (ls : List Lk) (l : Lk) : hasL ls l = true ↔ l ∈ ls := by
  unfold hasL
  rw [decide_eq_true_eq, fst_iff]
  constructor
  · rintro ⟨i, _, h2, h3⟩
    have hi : i < ls.length := by omega
    have hg := dAt_get ls i hi
    unfold lkEq at h3
    simp only [Bool.and_eq_true, beq_iff_eq] at h3
    have : dAt ls i = l := by unfold dAt; exact Prod.ext h3.1 (Prod.ext h3.2.1 h3.2.2)
    rw [← this, hg]
    exact List.getElem_mem hi
  · intro hm
    obtain ⟨i, hi, rfl⟩ := List.mem_iff_getElem.1 hm
    refine ⟨i, Nat.zero_le _, by omega, ?_⟩
    have hg := dAt_get ls i hi
    unfold dAt at hg
    unfold lkEq
    rw [← hg]
    simp
/-- Both dominoes lie at a cell. -/
def bothL (ls : List Lk) (x y : Int) (d : Bool) : Bool := hasL ls (x, y, d) && hasL ls (othX x d, othY y d, d)
def inF (x y : Int) : Bool := inB x 0 6 && inB y 0 6
/-- What l11Kind returns. -/
def kindZ (ls : List Lk) (x y : Int) : Int := if inF x y then (if bothL ls x y false then 1 else if bothL ls x y true then 2 else 0) else 0
theorem oth_quad (x y : Int) (d : Bool) : (x, y, d) = (quadL x y d).1 ∧ (othX x d, othY y d, d) = (quadL x y d).2 := by cases d <;> exact ⟨rfl, rfl⟩
theorem kind_pos {ls : List Lk} {x y : Int} (h : 0 < kindZ ls x y) : ((0 ≤ x ∧ x ≤ 6) ∧ 0 ≤ y ∧ y ≤ 6) ∧ ∃ d, kindZ ls x y = (if d then 2 else 1) ∧ (quadL x y d).1 ∈ ls ∧ (quadL x y d).2 ∈ ls := by
  unfold kindZ at h ⊢
  cases hi : inF x y
  · rw [hi] at h; simp at h
  · have hr := hi
    unfold inF at hr
    rw [Bool.and_eq_true, inB_iff, inB_iff] at hr
    refine ⟨hr, ?_⟩
    rw [hi] at h
    simp only [if_true] at h ⊢
    have key : ∀ d, bothL ls x y d = true → (quadL x y d).1 ∈ ls ∧ (quadL x y d).2 ∈ ls := fun d hb => by
      unfold bothL at hb
      rw [Bool.and_eq_true, hasL_iff, hasL_iff, (oth_quad x y d).1, (oth_quad x y d).2] at hb
      exact hb
    cases h1 : bothL ls x y false
    · cases h2 : bothL ls x y true
      · rw [h1, h2] at h; simp at h
      · exact ⟨true, by simp, key true h2⟩
    · exact ⟨false, by simp, key false h1⟩
theorem kind_of {ls : List Lk} {x y : Int} (hi : inF x y = true) (d : Bool) (h1 : (quadL x y d).1 ∈ ls) (h2 : (quadL x y d).2 ∈ ls) : 0 < kindZ ls x y := by
  have hb : bothL ls x y d = true := by
    unfold bothL
    rw [Bool.and_eq_true, hasL_iff, hasL_iff, (oth_quad x y d).1, (oth_quad x y d).2]
    exact ⟨h1, h2⟩
  unfold kindZ
  rw [hi]
  simp only [if_true]
  cases h3 : bothL ls x y false
  · cases d
    · rw [h3] at hb; simp at hb
    · rw [hb]; simp
  · simp

set_option maxRecDepth 100000 in
set_option maxHeartbeats 4000000 in
theorem l11Kind_any (v : Value) (ls : List Lk) (x y : Int) (B : Nat) (w : World) (h : RdF elDomino w B v ls) (hB : B ≤ w.heap.size) :
    Calls Try.prog 114 #[v, spotV x y] w fun e w' => e = .returned (.int .i64 (kindZ ls x y)) ∧ Below w.heap.size w w' := by
  have HHA := Lib.hid (fun V (hb : Below w.heap.size w V) x y d => l11Has_any v ls x y d B V (h.below (hb.mono hB)) (Nat.le_trans hB hb.size))
  obtain ⟨A, c, rfl, g1, g2, _⟩ := h
  unfold maxLen at g2
  obtain ⟨W, hW, k0, hb0⟩ := one_alloc w (.cells #[.int .i64 x, .int .i64 y] 44)
  have c0 : W.cell? ⟨w.heap.size, 0, none⟩ = some (.int .i64 x) := by rw [blk_cell k0]; rfl
  have c1 : W.cell? ⟨w.heap.size, 1, none⟩ = some (.int .i64 y) := by rw [blk_cell k0]; rfl
  have HK0 := Lib.hid k0
  have HB0 := Lib.hid hb0
  cases hx : inB x 0 6
  · have HZ : Hid ((0 : Int) = kindZ ls x y) := by unfold Hid kindZ inF; rw [hx]; rfl
    go_enter Try.func114, Try.ntmps114
    go_upto_region 1 with (fail)
    rw [← hW]
    clear hW k0 hb0
    go_wp2_with fail
    refine (l01In_any _ _ _ _).mono ?_
    rintro e w0 ⟨rfl, rfl⟩
    rw [hx]
    go_wp2_with fail
    go_ret
    exact ⟨ret_num HZ.out, HB0.out⟩
  · cases hy : inB y 0 6
    · have HZ : Hid ((0 : Int) = kindZ ls x y) := by unfold Hid kindZ inF; rw [hx, hy]; rfl
      go_enter Try.func114, Try.ntmps114
      go_upto_region 1 with (fail)
      rw [← hW]
      clear hW k0 hb0
      go_wp2_with fail
      refine (l01In_any _ _ _ _).mono ?_
      rintro e w0 ⟨rfl, rfl⟩
      rw [hx]
      go_wp2_with fail
      refine (l01In_any _ _ _ _).mono ?_
      rintro e w0 ⟨rfl, rfl⟩
      rw [hy]
      go_wp2_with fail
      go_ret
      exact ⟨ret_num HZ.out, HB0.out⟩
    · have HZ : Hid (kindZ ls x y = if bothL ls x y false then 1 else if bothL ls x y true then 2 else 0) := by unfold Hid kindZ inF; rw [hx, hy]; rfl
      have hxr := (inB_iff _ _ _).1 hx
      have hyr := (inB_iff _ _ _).1 hy
      have HPR := Lib.hid (fun d V => l11Pair_yes x y d hxr hyr V)
      obtain ⟨zz, HZZ⟩ : ∃ zz, Hid ((if bothL ls x y false then (1 : Int) else if bothL ls x y true then 2 else 0) = zz) := ⟨_, rfl⟩
      rw [HZ.out, HZZ.out]
      go_enter Try.func114, Try.ntmps114
      go_upto_region 1 with (fail)
      rw [← hW]
      clear hW k0 hb0
      go_wp2_with fail
      refine (l01In_any _ _ _ _).mono ?_
      rintro e w0 ⟨rfl, rfl⟩
      rw [hx]
      go_wp2_with fail
      refine (l01In_any _ _ _ _).mono ?_
      rintro e w0 ⟨rfl, rfl⟩
      rw [hy]
      clear hx hy hxr hyr
      go_wp2_with fail
      clear c0 c1
      go_loopw [5] (fun s wr => ∃ k : Nat, (1 ≤ k ∧ k ≤ 3) ∧ s = .int .i64 (k : Int) ∧ Hid (Below W.heap.size W wr) ∧ Hid (1 < k → bothL ls x y false = false) ∧ Hid (2 < k → bothL ls x y true = false)) (fun s _ => 4 - (intOf s).toNat)
      case atStart => exact ⟨1, by omega, rfl, Below.refl _ _, fun h => by omega, fun h => by omega⟩
      case round =>
        obtain ⟨k, hk, rfl, HB, HF, HT⟩ := hrel
        by_cases hk2 : k ≤ 2
        · have ht : decide ((k : Int) ≤ 2) = true := by simp only [decide_eq_true_eq]; omega
          have hdn : ((k : Int) == 2) = decide (k = 2) := by rw [Bool.eq_iff_iff, beq_iff_eq, decide_eq_true_eq]; omega
          obtain ⟨dn, HDN⟩ : ∃ dn, Hid (decide (k = 2) = dn) := ⟨_, rfl⟩
          rw [HDN.out] at hdn
          have HKR := Lib.hid (blk_below HK0.out HB.out)
          have d0 : wr.cell? ⟨w.heap.size, 0, none⟩ = some (.int .i64 x) := by rw [blk_cell HKR.out]; rfl
          have d1 : wr.cell? ⟨w.heap.size, 1, none⟩ = some (.int .i64 y) := by rw [blk_cell HKR.out]; rfl
          have HBW := Lib.hid (HB0.out.trans (HB.out.mono HB0.out.size))
          have hk0 : (0 : Int) ≤ (k : Int) := by omega
          have hk1 : (k : Int) ≤ 2 := by omega
          have HBO : Hid (bothL ls x y dn = (hasL ls (x, y, dn) && hasL ls (othX x dn, othY y dn, dn))) := rfl
          have HH1 : Hid (hasL ls (x, y, dn) = decide (0 ≤ fstZ (lkEq ls x y dn) ls.length 0)) := rfl
          have HH2 : Hid (hasL ls (othX x dn, othY y dn, dn) = decide (0 ≤ fstZ (lkEq ls (othX x dn) (othY y dn) dn) ls.length 0)) := rfl
          rw [HH1.out, HH2.out] at HBO
          have HA1 := Lib.hid (fun V (hb : Below w.heap.size w V) => HHA.out V hb x y dn)
          have HA2 := Lib.hid (fun V (hb : Below w.heap.size w V) => HHA.out V hb (othX x dn) (othY y dn) dn)
          generalize fstZ (lkEq ls x y dn) ls.length 0 = q1 at *
          generalize fstZ (lkEq ls (othX x dn) (othY y dn) dn) ls.length 0 = q2 at *
          generalize hox : othX x dn = ox at *
          generalize hoy : othY y dn = oy at *
          have HP := Lib.hid (HPR.out dn)
          rw [hox, hoy] at HP
          clear HH1 HH2 hox hoy
          go_wp2_with fail
          refine (HP.out _).mono ?_
          rintro e w3 ⟨rfl, hb3⟩
          have HB3 := Lib.hid (HBW.out.trans (hb3.mono HBW.out.size))
          have HBC := Lib.hid (HB.out.trans (hb3.mono HB.out.size))
          obtain ⟨V4, hV4, p1, p2, hb4⟩ := two_alloc w3 (triO x y dn 46) (triO ox oy dn 46)
          have HB4 := Lib.hid (HB3.out.trans (hb4.mono HB3.out.size))
          have HBC4 := Lib.hid (HBC.out.trans (hb4.mono HBC.out.size))
          have HP2 := Lib.hid p2
          obtain ⟨m0, m1, m2⟩ := tri_cells p1
          have HV4 := Lib.hid hV4
          rw [hV4] at m0 m1 m2
          clear hV4 p1 p2 hb3 hb4 d0 d1
          go_wp2_with fail
          rw [← HV4.out]
          clear m0 m1 m2 HV4
          refine (HA1.out V4 HB4.out).mono ?_
          rintro e w5 ⟨rfl, hb5⟩
          have HB5 := Lib.hid (HB4.out.trans (hb5.mono HB4.out.size))
          have HBC5 := Lib.hid (HBC4.out.trans (hb5.mono HBC4.out.size))
          obtain ⟨n0, n1, n2⟩ := tri_cells (blk_below HP2.out hb5)
          clear hb5 HP2
          have HNX : Hid (bothL ls x y dn = false → (1 < k + 1 → bothL ls x y false = false) ∧ (2 < k + 1 → bothL ls x y true = false)) := by
            intro hb
            refine ⟨fun _ => ?_, fun h2 => ?_⟩
            · by_cases e : k = 1
              · have : dn = false := by rw [← HDN.out]; simp [e]
                rw [this] at hb; exact hb
              · exact HF.out (by omega)
            · have : dn = true := by rw [← HDN.out]; simp; omega
              rw [this] at hb; exact hb
          by_cases hq1 : 0 ≤ q1
          · have hg1 : decide (0 ≤ q1) = true := by rw [decide_eq_true_eq]; exact hq1
            rw [hg1, Bool.true_and] at HBO
            clear hq1
            go_wp2_with fail
            refine (HA2.out w5 HB5.out).mono ?_
            rintro e w6 ⟨rfl, hb6⟩
            have HB6 := Lib.hid (HB5.out.trans (hb6.mono HB5.out.size))
            have HBC6 := Lib.hid (HBC5.out.trans (hb6.mono HBC5.out.size))
            clear hb6
            by_cases hq2 : 0 ≤ q2
            · have hg2 : decide (0 ≤ q2) = true := by rw [decide_eq_true_eq]; exact hq2
              rw [hg2] at HBO
              have HV : Hid ((k : Int) = if bothL ls x y false then 1 else if bothL ls x y true then 2 else 0) := by
                have hb := HBO.out
                by_cases e : k = 1
                · have : dn = false := by rw [← HDN.out]; simp [e]
                  rw [this] at hb
                  unfold Hid
                  rw [hb, e]; rfl
                · have : dn = true := by rw [← HDN.out]; simp; omega
                  rw [this] at hb
                  unfold Hid
                  rw [HF.out (by omega), hb]
                  have : k = 2 := by omega
                  subst this; rfl
              clear hq2
              go_wp2_with fail
              go_ret
              exact ⟨ret_num (HV.out.trans HZZ.out), HB6.out⟩
            · have hg2 : decide (0 ≤ q2) = false := by rw [decide_eq_false_iff_not]; exact hq2
              rw [hg2] at HBO
              have HN := Lib.hid (HNX.out HBO.out)
              clear hq2
              go_wp2_with fail
              go_roundw
              case rel => exact ⟨k + 1, by omega, by go_num, HBC6, HN.out.1, HN.out.2⟩
              case measure => simp [intOf]; omega
          · have hg1 : decide (0 ≤ q1) = false := by rw [decide_eq_false_iff_not]; exact hq1
            rw [hg1, Bool.false_and] at HBO
            have HN := Lib.hid (HNX.out HBO.out)
            clear hq1
            go_wp2_with fail
            go_roundw
            case rel => exact ⟨k + 1, by omega, by go_num, HBC5, HN.out.1, HN.out.2⟩
            case measure => simp [intOf]; omega
        · have ht : decide ((k : Int) ≤ 2) = false := by simp only [decide_eq_false_iff_not]; omega
          have HV : Hid ((0 : Int) = if bothL ls x y false then 1 else if bothL ls x y true then 2 else 0) := by
            unfold Hid
            rw [HF.out (by omega), HT.out (by omega)]; rfl
          go_wp2_with fail
          go_ret
          exact ⟨ret_num (HV.out.trans HZZ.out), HB0.out.trans (HB.out.mono HB0.out.size)⟩

/-- The cells with a pair. -/
def flipsTo (ls : List Lk) : Nat → List (Int × Int)
  | 0 => []
  | k + 1 => if 0 < kindZ ls ((k % 8 : Nat) : Int) ((k / 8 : Nat) : Int) then flipsTo ls k ++ [(((k % 8 : Nat) : Int), ((k / 8 : Nat) : Int))] else flipsTo ls k
def flipsZ (ls : List Lk) : List (Int × Int) := flipsTo ls 64
theorem flipsTo_len (ls : List Lk) : ∀ k, (flipsTo ls k).length ≤ k
  | 0 => Nat.le_refl _
  | k + 1 => by have := flipsTo_len ls k; rw [flipsTo]; split <;> simp <;> omega
theorem flipsTo_mem (ls : List Lk) : ∀ k c, c ∈ flipsTo ls k → 0 < kindZ ls c.1 c.2
  | 0, c, h => by simp [flipsTo] at h
  | k + 1, c, h => by
    rw [flipsTo] at h
    split at h
    · rename_i hk
      rcases List.mem_append.1 h with h | h
      · exact flipsTo_mem ls k c h
      · rw [List.mem_singleton] at h; subst h; exact hk
    · exact flipsTo_mem ls k c h
theorem flipsTo_has (ls : List Lk) (j : Nat) (hj : 0 < kindZ ls ((j % 8 : Nat) : Int) ((j / 8 : Nat) : Int)) : ∀ k, j < k → 0 < (flipsTo ls k).length
  | 0, h => by omega
  | k + 1, h => by
    rw [flipsTo]
    split
    · simp
    · rename_i hk
      have : j ≠ k := fun e => by rw [e] at hj; exact hk hj
      exact flipsTo_has ls j hj k (by omega)

set_option maxRecDepth 100000 in
set_option maxHeartbeats 4000000 in
theorem FlipsOf_any (v : Value) (ls : List Lk) (B : Nat) (w : World) (h : RdF elDomino w B v ls) (hB : B ≤ w.heap.size) :
    Calls Try.prog 48 #[v] w fun e w' => ∃ u, e = .returned u ∧ OwnF elCell w' w.heap.size u (flipsZ ls) ∧ Below w.heap.size w w' := by
  have HKI := Lib.hid (fun V (hb : Below w.heap.size w V) x y => l11Kind_any v ls x y B V (h.below (hb.mono hB)) (Nat.le_trans hB hb.size))
  have HZ : Hid (flipsZ ls = flipsTo ls 64) := rfl
  rw [HZ.out]
  have HST : Hid (∀ k, flipsTo ls (k + 1) = if 0 < kindZ ls ((k % 8 : Nat) : Int) ((k / 8 : Nat) : Int) then flipsTo ls k ++ [(((k % 8 : Nat) : Int), ((k / 8 : Nat) : Int))] else flipsTo ls k) := fun _ => rfl
  have HSL := Lib.hid (flipsTo_len ls)
  have HS0 : Hid (flipsTo ls 0 = []) := rfl
  obtain ⟨st, HE⟩ : ∃ st, Hid (st = flipsTo ls) := ⟨_, rfl⟩
  rw [← HE.out] at HST HSL HS0 ⊢
  obtain ⟨A, c, rfl, g1, g2, _⟩ := h
  unfold maxLen at g2
  have HA0 : Hid (Acc elCell w w.heap.size (w.alloc (.cells #[] 44)) (.slice (some ⟨w.heap.size, 0, none⟩) 0 0) []) := Acc.start w
  clear HE HZ
  go_enter Try.func48, Try.ntmps48
  go_wp2_with fail
  go_loopw [3, 4] (fun o i wr => ∃ (k : Nat) (x : Value), k ≤ 64 ∧ i = .int .i64 (k : Int) ∧ x = o ∧ Hid (Acc elCell w w.heap.size wr x (st k))) (fun _ i _ => 64 - (intOf i).toNat)
  case atStart => exact ⟨0, _, Nat.zero_le _, rfl, rfl, by rw [HS0.out]; exact HA0⟩
  case round =>
    obtain ⟨k, x, hk, rfl, rfl, HA⟩ := hrel
    obtain ⟨A1, ca, hv, q3, q4, _⟩ := HA.out.1.rd okCell
    subst hv
    unfold maxLen at q4
    have hlen := HSL.out k
    by_cases hlt : k < 64
    · have ht : decide ((k : Int) < 64) = true := by simp only [decide_eq_true_eq]; omega
      have HCA := Lib.hid (CellAt_yes k (by omega))
      have HSK := Lib.hid (HST.out k)
      have hk0 : (0 : Int) ≤ (k : Int) := by omega
      have hk1 : (k : Int) < 64 := by omega
      obtain ⟨x, HX⟩ : ∃ x, Hid (((k % 8 : Nat) : Int) = x) := ⟨_, rfl⟩
      obtain ⟨y, HY⟩ : ∃ y, Hid (((k / 8 : Nat) : Int) = y) := ⟨_, rfl⟩
      rw [HX.out, HY.out] at HCA HSK
      have HKK := Lib.hid (fun V (hb : Below w.heap.size w V) => HKI.out V hb x y)
      generalize kindZ ls x y = q at *
      generalize st k = ys at *
      clear HX HY
      go_wp2_with fail
      refine (HCA.out _).mono ?_
      rintro e w2 ⟨rfl, hb2⟩
      have HA2 := Lib.hid (HA.out.below hb2)
      obtain ⟨V3, hV3, p1, hb3⟩ := one_alloc w2 (.cells #[.int .i64 x, .int .i64 y] 44)
      have HA3 := Lib.hid (HA2.out.below hb3)
      have HP := Lib.hid p1
      have HV3 := Lib.hid hV3
      have m0 : V3.cell? ⟨w2.heap.size, 0, none⟩ = some (.int .i64 x) := by rw [blk_cell p1]; rfl
      have m1 : V3.cell? ⟨w2.heap.size, 1, none⟩ = some (.int .i64 y) := by rw [blk_cell p1]; rfl
      rw [hV3] at m0 m1
      clear hV3 p1 hb2 hb3
      go_wp2_with fail
      rw [← HV3.out]
      clear m0 m1 HV3
      refine (HKK.out V3 HA3.out.2.1).mono ?_
      rintro e w4 ⟨rfl, hb4⟩
      have HA4 := Lib.hid (HA3.out.below hb4)
      have HP4 := Lib.hid (blk_below HP.out hb4)
      clear hb4
      have n0 : w4.cell? ⟨w2.heap.size, 0, none⟩ = some (.int .i64 x) := by rw [blk_cell HP4.out]; rfl
      have n1 : w4.cell? ⟨w2.heap.size, 1, none⟩ = some (.int .i64 y) := by rw [blk_cell HP4.out]; rfl
      by_cases hq : 0 < q
      · have hg : decide (0 < q) = true := by rw [decide_eq_true_eq]; exact hq
        have HS2 : Hid (st (k + 1) = ys ++ [(x, y)]) := by unfold Hid; rw [HSK.out, if_pos hq]
        clear hq HSK
        go_wp2_with (at_builtin; refine wpList_push okCell rfl _ _ rfl HA4.out rfl (x, y) _ rfl _ rfl rfl (by omega) ?_; intro v10 w10 HA10 HG10)
        go_roundw
        case rel => exact ⟨k + 1, _, by omega, by go_num, rfl, by rw [HS2.out]; exact HA10⟩
        case measure => simp [intOf]; omega
      · have hg : decide (0 < q) = false := by rw [decide_eq_false_iff_not]; exact hq
        have HS2 : Hid (st (k + 1) = ys) := by unfold Hid; rw [HSK.out, if_neg hq]
        clear hq HSK
        go_wp2_with fail
        go_roundw
        case rel => exact ⟨k + 1, _, by omega, by go_num, rfl, by rw [HS2.out]; exact HA4⟩
        case measure => simp [intOf]; omega
    · obtain rfl : k = 64 := by omega
      have ht : decide (((64 : Nat) : Int) < 64) = false := by simp
      go_wp2_with fail
      go_ret
      exact ⟨_, rfl, HA.out.1, HA.out.2.1⟩
end Go.Proofs.Ytehnbalbpfmijaa

namespace Go.Proofs.Ytehnbalbpfmijaa
open Go.RowKit
set_option linter.unusedVariables false

theorem neq_dom (a b : Int) (c : Bool) (x y : Int) (z : Bool) (W : World) : Sem.run Try.prog (binOp .neq 46 (.agg #[.int .i64 a, .int .i64 b, .bool c]) (.agg #[.int .i64 x, .int .i64 y, .bool z])) W = .ok (.bool (((a, b, c) : Lk) != (x, y, z))) W := by
  by_cases h1 : a = x
  · by_cases h2 : b = y
    · by_cases h3 : c = z
      · subst h1; subst h2; subst h3
        rw [show (((a, b, c) : Lk) != (a, b, c)) = false by simp]
        go_simp
      · rw [show (((a, b, c) : Lk) != (x, y, z)) = true by simp [h3]]
        go_simp
    · rw [show (((a, b, c) : Lk) != (x, y, z)) = true by simp [h2]]
      go_simp
  · rw [show (((a, b, c) : Lk) != (x, y, z)) = true by simp [h1]]
    go_simp
theorem litD {α : Type} {E : El α} (w : World) (cs : Array Value) (xs : List α) (n : Nat) (hn : n = xs.length) (hl : n ≤ maxLen) (hc : cs.toList = xs.flatMap E.f) (hE : ∀ x, (E.f x).length = E.s) : OwnF E (w.alloc (.cells cs E.e)) w.heap.size (.slice (some ⟨w.heap.size, 0, none⟩) n n) xs := by
  subst hn
  unfold OwnF
  rw [← hc]
  exact World.ownsRow_lit w cs xs.length (Nat.le_refl _) hl (by rw [← Array.length_toList, hc, flat_length hE])
/-- What is kept of the first k, behind the turned pair. -/
def flTo (ls : List Lk) (x y : Int) (d : Bool) (k : Nat) : List Lk := (quadL x y (!d)).1 :: (quadL x y (!d)).2 :: (ls.take k).filter fun l => l != (quadL x y d).1 && l != (quadL x y d).2
theorem flTo_step (ls : List Lk) (x y : Int) (d : Bool) (k : Nat) (h : k < ls.length) : flTo ls x y d (k + 1) = flTo ls x y d k ++ if dAt ls k != (x, y, d) && dAt ls k != (othX x d, othY y d, d) then [dAt ls k] else [] := by
  unfold flTo
  rw [(oth_quad x y d).1, (oth_quad x y d).2, take_get h, List.filter_append, List.cons_append, List.cons_append]
  congr 3
  rw [List.filter_cons, List.filter_nil]
theorem flTo_len (ls : List Lk) (x y : Int) (d : Bool) (k : Nat) : (flTo ls x y d k).length ≤ ls.length + 2 := by
  unfold flTo
  have h1 := List.length_filter_le (fun l => l != (quadL x y d).1 && l != (quadL x y d).2) (ls.take k)
  rw [List.length_take] at h1
  simp only [List.length_cons]
  omega

set_option maxRecDepth 100000 in
set_option maxHeartbeats 4000000 in
theorem FlipAt_yes (v : Value) (ls : List Lk) (x y : Int) (d : Bool) (B : Nat) (w : World) (h : RdF elDomino w B v ls) (hB : B ≤ w.heap.size) (hll : ls.length ≤ 1000) (hxr : 0 ≤ x ∧ x ≤ 6) (hyr : 0 ≤ y ∧ y ≤ 6) (hkd : kindZ ls x y = if d then 2 else 1) :
    Calls Try.prog 49 #[v, spotV x y] w fun e w' => ∃ u, e = .returned (.tuple #[u, .bool true]) ∧ OwnF elDomino w' w.heap.size u (sortI (flipL ls x y d) (flipL ls x y d).length) ∧ Below w.heap.size w w' := by
  have HKI := Lib.hid (fun V (hb : Below w.heap.size w V) => l11Kind_any v ls x y B V (h.below (hb.mono hB)) (Nat.le_trans hB hb.size))
  have HPR := Lib.hid (fun d V => l11Pair_yes x y d hxr hyr V)
  have HP1 := Lib.hid (HPR.out d)
  have HP2 := Lib.hid (HPR.out (!d))
  have HFE : Hid (flTo ls x y d ls.length = flipL ls x y d) := by unfold Hid flTo flipL; rw [List.take_length]
  have HST := Lib.hid (flTo_step ls x y d)
  have HSL := Lib.hid (flTo_len ls x y d)
  have HS0 : Hid (flTo ls x y d 0 = [(x, y, !d), (othX x (!d), othY y (!d), !d)]) := by unfold Hid flTo; rw [(oth_quad x y (!d)).1, (oth_quad x y (!d)).2]; rfl
  rw [← HFE.out]
  obtain ⟨st, HE⟩ : ∃ st, Hid (st = flTo ls x y d) := ⟨_, rfl⟩
  rw [← HE.out] at HST HSL HS0 ⊢
  obtain ⟨A, c, rfl, g1, g2, G3⟩ := RdT.of (E := elDomino) rfl (fun _ => rfl) h
  unfold maxLen at g2
  have hk0 : ((kindZ ls x y) == 0) = false := by rw [hkd]; cases d <;> rfl
  have hk1 : ((kindZ ls x y) == 1) = !d := by rw [hkd]; cases d <;> rfl
  have hk2 : ((kindZ ls x y) == 2) = d := by rw [hkd]; cases d <;> rfl
  clear hkd HFE HE HPR h
  generalize kindZ ls x y = q at *
  generalize othX x d = ex at *
  generalize othY y d = ey at *
  generalize othX x (!d) = vx at *
  generalize othY y (!d) = vy at *
  obtain ⟨nd, HND⟩ : ∃ nd, Hid ((!d) = nd) := ⟨_, rfl⟩
  rw [HND.out] at hk1 HP2 HS0
  obtain ⟨W, hW, kc, hb0⟩ := one_alloc w (.cells #[.int .i64 x, .int .i64 y] 44)
  have c0 : W.cell? ⟨w.heap.size, 0, none⟩ = some (.int .i64 x) := by rw [blk_cell kc]; rfl
  have c1 : W.cell? ⟨w.heap.size, 1, none⟩ = some (.int .i64 y) := by rw [blk_cell kc]; rfl
  have HKC := Lib.hid kc
  have HB0 := Lib.hid hb0
  clear HND
  go_enter Try.func49, Try.ntmps49
  go_upto_region 1 with (fail)
  rw [← hW]
  clear hW kc hb0
  go_wp2_with fail
  refine (HKI.out W HB0.out).mono ?_
  rintro e w1 ⟨rfl, hb1⟩
  have HB1 := Lib.hid (HB0.out.trans (hb1.mono HB0.out.size))
  have HKC1 := Lib.hid (blk_below HKC.out hb1)
  have d0 : w1.cell? ⟨w.heap.size, 0, none⟩ = some (.int .i64 x) := by rw [blk_cell HKC1.out]; rfl
  have d1 : w1.cell? ⟨w.heap.size, 1, none⟩ = some (.int .i64 y) := by rw [blk_cell HKC1.out]; rfl
  clear hb1 c0 c1
  go_wp2_with fail
  refine (HP1.out _).mono ?_
  rintro e w2 ⟨rfl, hb2⟩
  have HB2 := Lib.hid (HB1.out.trans (hb2.mono HB1.out.size))
  have HKC2 := Lib.hid (blk_below HKC1.out hb2)
  obtain ⟨V2, hV2, p1, p2, hbv2⟩ := two_alloc w2 (triO x y d 46) (triO ex ey d 46)
  have HBV2 := Lib.hid (HB2.out.trans (hbv2.mono HB2.out.size))
  have HKCV := Lib.hid (blk_below HKC2.out hbv2)
  have e0 : V2.cell? ⟨w.heap.size, 0, none⟩ = some (.int .i64 x) := by rw [blk_cell HKCV.out]; rfl
  have e1 : V2.cell? ⟨w.heap.size, 1, none⟩ = some (.int .i64 y) := by rw [blk_cell HKCV.out]; rfl
  have HD1 := Lib.hid p1; have HD2 := Lib.hid p2
  have HV2 := Lib.hid hV2
  rw [hV2] at e0 e1
  clear hV2 p1 p2 hbv2 hb2 d0 d1
  go_wp2_with fail
  rw [← HV2.out]
  clear e0 e1 HV2
  refine (HP2.out _).mono ?_
  rintro e w3 ⟨rfl, hb3⟩
  have HB3 := Lib.hid (HBV2.out.trans (hb3.mono HBV2.out.size))
  have HD13 := Lib.hid (blk_below HD1.out hb3); have HD23 := Lib.hid (blk_below HD2.out hb3)
  obtain ⟨V3, hV3, p1, p2, hbv3⟩ := two_alloc w3 (triO x y nd 46) (triO vx vy nd 46)
  have HBV3 := Lib.hid (HB3.out.trans (hbv3.mono HB3.out.size))
  have HD14 := Lib.hid (blk_below HD13.out hbv3); have HD24 := Lib.hid (blk_below HD23.out hbv3)
  obtain ⟨m0, m1, m2⟩ := tri_cells p1
  obtain ⟨n0, n1, n2⟩ := tri_cells p2
  have HV3 := Lib.hid hV3
  rw [hV3] at m0 m1 m2 n0 n1 n2
  obtain ⟨V4, hV4, p4, hbv4⟩ := one_alloc V3 (.cells #[.int .i64 x, .int .i64 y, .bool nd, .int .i64 vx, .int .i64 vy, .bool nd] 46)
  have HLIT : Hid (OwnF elDomino V4 w.heap.size (.slice (some ⟨V3.heap.size, 0, none⟩) 2 2) (st 0)) := by
    unfold Hid
    rw [HS0.out, hV4]
    exact (litD (E := elDomino) V3 #[.int .i64 x, .int .i64 y, .bool nd, .int .i64 vx, .int .i64 vy, .bool nd] [(x, y, nd), (vx, vy, nd)] 2 rfl (by unfold maxLen; omega) rfl (fun _ => rfl)).mono HBV3.out.size
  have HBV4 := Lib.hid (HBV3.out.trans (hbv4.mono HBV3.out.size))
  have HACC : Hid (Acc elDomino w w.heap.size V4 (.slice (some ⟨V3.heap.size, 0, none⟩) 2 2) (st 0)) := ⟨HLIT.out, HBV4.out, Nat.le_refl _, HBV4.out.size⟩
  have HD15 := Lib.hid (blk_below HD14.out hbv4); have HD25 := Lib.hid (blk_below HD24.out hbv4)
  have HV4 := Lib.hid hV4
  have HVS : Hid (V3.heap.size = w3.heap.size + 1 + 1) := by unfold Hid; rw [hV3]; simp
  rw [HVS.out] at HACC
  have HSEP : Hid (V3.heap.size ≠ w2.heap.size ∧ V3.heap.size ≠ w2.heap.size + 1) := by
    have h1 := lt_of_block HD14.out
    have h2 := lt_of_block HD24.out
    exact ⟨by omega, by omega⟩
  have HLT : Hid (w2.heap.size + 1 < V3.heap.size) := lt_of_block HD24.out
  clear hV3 hV4 p1 p2 p4 hbv3 hbv4 hb3
  go_wp2_with fail
  rw [← HV3.out, ← HV4.out]
  clear m0 m1 m2 n0 n1 n2 HV3 HV4
  go_loopw [11, 12] (fun o i wr => ∃ (k : Nat) (u : Value), k ≤ ls.length ∧ i = .int .i64 (k : Int) ∧ u = o ∧ Hid (Acc elDomino w w.heap.size wr u (st k)) ∧ Hid (wr.heap[w2.heap.size]? = some (triO x y d 46)) ∧ Hid (wr.heap[w2.heap.size + 1]? = some (triO ex ey d 46)) ∧ Hid (∀ g, u.ownBlock = some g → w2.heap.size + 1 < g)) (fun _ i _ => ls.length - (intOf i).toNat)
  case atStart => exact ⟨0, _, Nat.zero_le _, rfl, rfl, HACC, HD15, HD25, fun g hg => by simp only [Value.ownBlock, Option.some.injEq] at hg; have := HLT.out; have := HVS.out; omega⟩
  case round =>
    obtain ⟨k, u, hk, rfl, rfl, HA, HE1, HE2, HO⟩ := hrel
    obtain ⟨A1, ca, hv, q1, q2, _⟩ := HA.out.1.rd okDomino
    have hml := HSL.out k
    subst hv
    unfold maxLen at q2
    by_cases hlt : k < ls.length
    · have ht : decide ((k : Int) < (ls.length : Int)) = true := by simp only [decide_eq_true_eq]; omega
      obtain ⟨ad, rfl, had, hx, hy, hz⟩ := G3.out k hlt
      have hbw := HA.out.2.1
      have had2 : (ad.add (k * 3)).block < w.heap.size := by rw [addBlock]; omega
      have hx' := (hbw.cell (p := ad.add (k * 3)) had2).trans hx
      have hy' := (hbw.cell (p := ⟨(ad.add (k * 3)).block, (ad.add (k * 3)).off + 1, none⟩) had2).trans hy
      have hz' := (hbw.cell (p := ⟨(ad.add (k * 3)).block, (ad.add (k * 3)).off + 2, none⟩) had2).trans hz
      obtain ⟨m0, m1, m2⟩ := tri_cells HE1.out
      obtain ⟨n0, n1, n2⟩ := tri_cells HE2.out
      have hk0' : (0 : Int) ≤ (k : Int) := by omega
      have hk1' : (k : Int) < (ls.length : Int) := by omega
      have HSK := Lib.hid (HST.out k hlt)
      have HDD : Hid (dAt ls k = (lx ls k, ly ls k, ld ls k)) := rfl
      rw [HDD.out] at HSK
      clear hx hy hz hbw had2 HDD
      generalize lx ls k = r1 at *
      generalize ly ls k = r2 at *
      generalize ld ls k = r3 at *
      generalize st k = ys at *
      have hn1 := neq_dom r1 r2 r3 x y d
      have hn2 := neq_dom r1 r2 r3 ex ey d
      generalize hb1 : (((r1, r2, r3) : Lk) != (x, y, d)) = b1 at *
      generalize hb2 : (((r1, r2, r3) : Lk) != (ex, ey, d)) = b2 at *
      clear hb1 hb2
      cases b1
      · have HS2 : Hid (st (k + 1) = ys) := by unfold Hid; rw [HSK.out, Bool.false_and]; simp
        clear HSK
        go_wp2_with fail
        go_quiet (fail)
        have hbn : Below wr.heap.size wr (wr.drewN nq) := Drawn.below ⟨nq, rfl⟩ _
        go_wp2_with fail
        go_roundw
        case rel => exact ⟨k + 1, _, by omega, by go_num, rfl, by rw [HS2.out]; exact HA.out.below hbn, blk_below HE1.out hbn, blk_below HE2.out hbn, HO⟩
        case measure => simp [intOf]; omega
      · cases b2
        · have HS2 : Hid (st (k + 1) = ys) := by unfold Hid; rw [HSK.out, Bool.true_and]; simp
          clear HSK
          go_wp2_with fail
          go_quiet (fail)
          have hbn : Below wr.heap.size wr (wr.drewN nq) := Drawn.below ⟨nq, rfl⟩ _
          go_wp2_with fail
          go_roundw
          case rel => exact ⟨k + 1, _, by omega, by go_num, rfl, by rw [HS2.out]; exact HA.out.below hbn, blk_below HE1.out hbn, blk_below HE2.out hbn, HO⟩
          case measure => simp [intOf]; omega
        · have HS2 : Hid (st (k + 1) = ys ++ [(r1, r2, r3)]) := by unfold Hid; rw [HSK.out, Bool.true_and]; simp
          clear HSK
          go_wp2_with fail
          go_quiet (fail)
          have hbn : Below wr.heap.size wr (wr.drewN nq) := Drawn.below ⟨nq, rfl⟩ _
          have HAN := Lib.hid (HA.out.below hbn)
          have HEN1 := Lib.hid (blk_below HE1.out hbn); have HEN2 := Lib.hid (blk_below HE2.out hbn)
          go_wp2_with (at_builtin; refine wpList_push okDomino rfl _ _ rfl HAN.out rfl (r1, r2, r3) _ rfl _ rfl rfl (by omega) ?_; intro v10 w10 HA10 HG10)
          have hs10 := lt_of_block HEN2.out
          have hh1 := HG10.out.1.block w2.heap.size (by omega) (fun e => by have := HO.out _ e.symm; omega)
          have hh2 := HG10.out.1.block (w2.heap.size + 1) (by omega) (fun e => by have := HO.out _ e.symm; omega)
          obtain ⟨g10, hg10, hg11, _⟩ := HG10.out.2
          go_roundw
          case rel =>
            refine ⟨k + 1, _, by omega, by go_num, rfl, by rw [HS2.out]; exact HA10, hh1.trans HEN1.out, hh2.trans HEN2.out, fun g hg => ?_⟩
            rw [hg10] at hg
            obtain rfl := Option.some.inj hg
            rcases hg11 with e | e
            · exact HO.out _ e
            · omega
          case measure => simp [intOf]; omega
    · obtain rfl : k = ls.length := by omega
      have ht : decide ((ls.length : Int) < (ls.length : Int)) = false := by simp
      have HRD := Lib.hid (HA.out.1.rd okDomino)
      have HBA := Lib.hid HA.out.2.1
      go_wp2_with fail
      refine (specSortDominoes_any _ (st ls.length) _ _ HRD.out (Nat.le_refl _)).mono ?_
      rintro e w9 ⟨u9, rfl, ho9, hb9⟩
      have HO9 := Lib.hid (ho9.mono HBA.out.size)
      have HB9 := Lib.hid (HBA.out.trans (hb9.mono HBA.out.size))
      obtain ⟨A9, c9, hv9, _, _, _⟩ := ho9.rd okDomino
      subst hv9
      clear ho9 hb9
      go_wp2_with fail
      refine bodyPost_ret (v := .tuple #[.slice A9 (sortI (st ls.length) (st ls.length).length).length c9, .bool true]) (by simp [results, Try.results49, go_sem]) rfl ⟨_, rfl, HO9.out, HB9.out⟩
end Go.Proofs.Ytehnbalbpfmijaa

namespace Go.Proofs.Ytehnbalbpfmijaa
open Go.RowKit

theorem acc0 {α : Type} {E : El α} {wr : World} {lo : Nat} {v : Value} {xs : List α} (h : OwnF E wr lo v xs) (hl : lo ≤ wr.heap.size) : Acc E { wr with heap := #[] } lo wr v xs :=
  ⟨h, ⟨rfl, rfl, rfl, Nat.zero_le _, fun _ hk => absurd hk (Nat.not_lt_zero _)⟩, Nat.zero_le _, hl⟩
theorem acc0I {wr : World} {lo : Nat} {v : Value} {xs : List Int} (h : OwnI wr lo v xs) (hl : lo ≤ wr.heap.size) : Acc elInt { wr with heap := #[] } lo wr v xs := acc0 (ownF_int.2 h) hl
/-- Only row, of what w had, is written: it stays so where what is younger than w grows. -/
theorem grownBy_more {w wr w' : World} {row row' : Option Nat} (h : w.grownBy wr row) (hg : wr.grownBy w' row') (hr : ∀ k, row' = some k → w.heap.size ≤ k ∨ row = some k) : w.grownBy w' row :=
  ⟨hg.os.trans h.os, hg.tape.trans h.tape, hg.output.trans h.output, Nat.le_trans h.size hg.size, fun k hk hne => (hg.block k (Nat.lt_of_lt_of_le hk h.size) (fun e => by
    rcases hr k e.symm with h1 | h1
    · omega
    · exact hne h1.symm)).trans (h.block k hk hne)⟩
theorem grownBy_below {w wr w' : World} {row : Option Nat} (h : w.grownBy wr row) (hb : Below wr.heap.size wr w') : w.grownBy w' row :=
  grownBy_more h (row' := none) ⟨hb.os, hb.tape, hb.output, hb.size, fun k hk _ => hb.block k hk⟩ (fun k e => by simp at e)
theorem grownBy_alloc (w : World) (o : Obj) (row : Option Nat) : w.grownBy (w.alloc o) row := ⟨rfl, rfl, rfl, by simp, fun _ hk _ => Below.heap_alloc _ _ _ hk⟩
/-- A young row written: below the old heap nothing turns. -/
theorem below_young {w0 w w' : World} {q : Nat} (hb : Below w0.heap.size w0 w) (hg : w.grownBy w' (some q)) (hq : w0.heap.size ≤ q) : Below w0.heap.size w0 w' :=
  hb.grown hg hb.size fun k hk => by simp at hk; omega
end Go.Proofs.Ytehnbalbpfmijaa

namespace Go.Proofs.Ytehnbalbpfmijaa
open Go.RowKit

/-- v is a slice of n bytes. -/
def RdU (w : World) (B : Nat) (v : Value) (n : Nat) : Prop := ∃ A c, v = .slice A n c ∧ n ≤ c ∧ c ≤ maxLen ∧ ∀ j, j < n → ∃ ad z, A = some ad ∧ ad.block < B ∧ 0 ≤ z ∧ z ≤ 255 ∧ w.cell? (ad.add j) = some (.int .u8 z)
theorem RdU.keep {w w' : World} {B : Nat} {v : Value} {n : Nat} (h : RdU w B v n) (hk : ∀ p : Addr, p.block < B → w'.cell? p = w.cell? p) : RdU w' B v n := by
  obtain ⟨A, c, e, h1, h2, h3⟩ := h
  refine ⟨A, c, e, h1, h2, fun j hj => ?_⟩
  obtain ⟨ad, z, e2, hb, z0, z1, hc⟩ := h3 j hj
  exact ⟨ad, z, e2, hb, z0, z1, (hk _ (by rw [addBlock]; exact hb)).trans hc⟩
theorem RdU.below {w w' : World} {B : Nat} {v : Value} {n : Nat} (h : RdU w B v n) (hb : Below B w w') : RdU w' B v n := h.keep fun _ hp => hb.cell hp
theorem RdU.more {w : World} {B B' : Nat} {v : Value} {n : Nat} (h : RdU w B v n) (hB : B ≤ B') : RdU w B' v n := by
  obtain ⟨A, c, e, h1, h2, h3⟩ := h
  refine ⟨A, c, e, h1, h2, fun j hj => ?_⟩
  obtain ⟨ad, z, e2, hb, r⟩ := h3 j hj
  exact ⟨ad, z, e2, by omega, r⟩

/-- Block q is a cursor over the n bytes of v. -/
def Cur (w : World) (q : Nat) (v : Value) (n : Nat) : Prop := ∃ (i : Nat) (h : Int), i ≤ n ∧ w.heap[q]? = some (.cells #[v, .int .i64 i, .int .i64 h] 143 (0, 0)) ∧ RdU w q v n
theorem Cur.lt {w : World} {q : Nat} {v : Value} {n : Nat} (h : Cur w q v n) : q < w.heap.size := by obtain ⟨_, _, _, h, _⟩ := h; exact lt_of_block h
/-- The cursor stays where neither it nor its bytes are written. -/
theorem Cur.grown {w w' : World} {q : Nat} {v : Value} {n : Nat} {row : Option Nat} (h : Cur w q v n) (hg : w.grownBy w' row) (hr : ∀ k, row = some k → q < k) : Cur w' q v n := by
  have hq := h.lt
  obtain ⟨i, x, hi, hb, hr2⟩ := h
  have hk : ∀ k, k ≤ q → w'.heap[k]? = w.heap[k]? := fun k hk => hg.block k (by omega) (fun e => by have := hr k e.symm; omega)
  exact ⟨i, x, hi, by rw [hk q (Nat.le_refl _)]; exact hb, hr2.keep fun p hp => World.cell?_of_block (hk _ (by omega))⟩
theorem Cur.below {w w' : World} {q : Nat} {v : Value} {n : Nat} (h : Cur w q v n) (hb : Below w.heap.size w w') : Cur w' q v n :=
  h.grown (row := none) ⟨hb.os, hb.tape, hb.output, hb.size, fun k hk _ => hb.block k hk⟩ fun k e => by simp at e

/-- A draw: some number r with P r comes back; the cursor's block alone is written. -/
def Draw (P : Int → Prop) (w : World) (q : Nat) (v : Value) (n : Nat) (e : Ending) (w' : World) : Prop := ∃ r, P r ∧ e = .returned (.int .i64 r) ∧ Cur w' q v n ∧ w.grownBy w' (some q)

theorem and255 (n : Int) : bits .and .i64 n 255 = n % 256 := by
  have h127 : (BitVec.ofInt 64 255).toNat = 2 ^ 8 - 1 := by decide
  have key : (BitVec.ofInt 64 n &&& BitVec.ofInt 64 255).toNat = (n % ((2 ^ 64 : Nat) : Int)).toNat % 2 ^ 8 := by
    rw [BitVec.toNat_and, BitVec.toNat_ofInt, h127, Nat.and_two_pow_sub_one_eq_mod]
  show IntKind.i64.wrap ((BitVec.ofInt 64 n &&& BitVec.ofInt 64 255).toNat : Nat) = n % 256
  rw [key, IntKind.wrap_i64]
  omega
def and255Z (n : Int) : Int := bits .and .i64 n 255
theorem and255Z_bd (n : Int) : 0 ≤ and255Z n ∧ and255Z n ≤ 255 := by unfold and255Z; rw [and255]; omega

set_option maxHeartbeats 1000000 in
theorem byte_any (q n : Nat) (v : Value) (w : World) (hc : Cur w q v n) :
    Calls Try.prog 162 #[.pointer (some ⟨q, 0, none⟩)] w (Draw (fun r => 0 ≤ r ∧ r ≤ 255) w q v n) := by
  obtain ⟨i, h, hi, hb, A, c, rfl, h1, h2, h3⟩ := hc
  unfold maxLen at h2
  have hsh1 : ∀ (W : World) (x : Int), Sem.run Try.prog (Op.shift BinOp.shr IntKind.i64 x IntKind.u64 33) W = .ok (.int .i64 (x / 8589934592)) W := fun W x => by rw [shift_shr _ _ _ _ (by omega) (by decide)]; rfl
  have hsh2 : ∀ (W : World) (x : Int), Sem.run Try.prog (Op.shift BinOp.shr IntKind.i64 x IntKind.u64 45) W = .ok (.int .i64 (x / 35184372088832)) W := fun W x => by rw [shift_shr _ _ _ _ (by omega) (by decide)]; rfl
  have c0 : w.cell? ⟨q, 0, none⟩ = some (.slice A n c) := by rw [blk_cell hb]; rfl
  have c1 : w.cell? ⟨q, 1, none⟩ = some (.int .i64 i) := by rw [blk_cell hb]; rfl
  have c2 : w.cell? ⟨q, 2, none⟩ = some (.int .i64 h) := by rw [blk_cell hb]; rfl
  have f1 : w.frozen? ⟨q, 1, none⟩ = false := blk_free hb
  have f2 : w.frozen? ⟨q, 2, none⟩ = false := blk_free hb
  by_cases hlt : i < n
  · obtain ⟨ad, z, rfl, hbl, z0, z1, hz⟩ := h3 i hlt
    have hi0 : (0 : Int) ≤ (i : Int) := by omega
    have hi1 : (i : Int) < (n : Int) := by omega
    go_enter Try.func162, Try.ntmps162
    go_wp2_with fail
    have hb1 := blk_setCell (k := 2) hb (.int .i64 (wrap64 (wrap64 (h * 6364136223846793005) + 1442695040888963407)))
    have hg1 := grownBy_set w q 2 (.int .i64 (wrap64 (wrap64 (h * 6364136223846793005) + 1442695040888963407)))
    have hz1 : (w.setCell ⟨q, 2, none⟩ (.int .i64 (wrap64 (wrap64 (h * 6364136223846793005) + 1442695040888963407)))).cell? (ad.add i) = some (.int .u8 z) :=
      (World.cell?_of_block (Below.heap_setCell _ _ _ _ (by rw [addBlock]; simp; omega))).trans hz
    generalize wrap64 (wrap64 (h * 6364136223846793005) + 1442695040888963407) = h' at *
    generalize w.setCell ⟨q, 2, none⟩ (.int .i64 h') = W at *
    have c0' : W.cell? ⟨q, 0, none⟩ = some (.slice (some ad) n c) := by rw [blk_cell hb1]; rfl
    have c1' : W.cell? ⟨q, 1, none⟩ = some (.int .i64 i) := by rw [blk_cell hb1]; rfl
    have c2' : W.cell? ⟨q, 2, none⟩ = some (.int .i64 h') := by rw [blk_cell hb1]; rfl
    have f1' : W.frozen? ⟨q, 1, none⟩ = false := blk_free hb1
    clear c0 c1 c2 f1 f2
    go_quiet (fail)
    go_wp2_with fail
    go_quiet (fail)
    go_wp2_with fail
    go_quiet (fail)
    go_wp2_with fail
    go_ret
    have hR : RdU w q (.slice (some ad) n c) n := ⟨some ad, c, rfl, h1, by unfold maxLen; omega, h3⟩
    refine ⟨_, and255Z_bd _, rfl, ⟨i + 1, h', by omega, ?_, ?_⟩, ?_⟩
    · exact (blk_setCell (w := W) hb1 (.int .i64 ((i : Int) + 1))).trans (by simp)
    · exact hR.keep fun p hp => (World.cell?_of_block (Below.heap_setCell _ _ _ _ (by simp; omega))).trans (World.cell?_of_block (hg1.block _ (by have := lt_of_block hb; omega) (fun e => by simp at e; omega)))
    · exact hg1.trans ((grownBy_drewN W _ _).trans (grownBy_set _ q 1 (.int .i64 ((i : Int) + 1))))
  · have hi1 : ¬ (i : Int) < (n : Int) := by omega
    go_enter Try.func162, Try.ntmps162
    go_wp2_with fail
    have hb1 := blk_setCell (k := 2) hb (.int .i64 (wrap64 (wrap64 (h * 6364136223846793005) + 1442695040888963407)))
    have hg1 := grownBy_set w q 2 (.int .i64 (wrap64 (wrap64 (h * 6364136223846793005) + 1442695040888963407)))
    generalize wrap64 (wrap64 (h * 6364136223846793005) + 1442695040888963407) = h' at *
    generalize w.setCell ⟨q, 2, none⟩ (.int .i64 h') = W at *
    have c0' : W.cell? ⟨q, 0, none⟩ = some (.slice A n c) := by rw [blk_cell hb1]; rfl
    have c1' : W.cell? ⟨q, 1, none⟩ = some (.int .i64 i) := by rw [blk_cell hb1]; rfl
    have c2' : W.cell? ⟨q, 2, none⟩ = some (.int .i64 h') := by rw [blk_cell hb1]; rfl
    clear c0 c1 c2 f1 f2
    go_quiet (fail)
    go_wp2_with fail
    go_quiet (fail)
    go_wp2_with fail
    go_ret
    have hR : RdU w q (.slice A n c) n := ⟨A, c, rfl, h1, by unfold maxLen; omega, h3⟩
    refine ⟨_, and255Z_bd _, rfl, ⟨i, h', by omega, ?_, ?_⟩, ?_⟩
    · exact hb1
    · exact hR.keep fun p hp => World.cell?_of_block (hg1.block _ (by have := lt_of_block hb; omega) (fun e => by simp at e; omega))
    · exact hg1.trans ((grownBy_drewN W _ _).trans (grownBy_drewN _ _ _))

set_option maxHeartbeats 1000000 in
theorem below_any (q n : Nat) (v : Value) (m : Int) (w : World) (hc : Cur w q v n) (h1 : 1 ≤ m) (h2 : m ≤ 256) :
    Calls Try.prog 131 #[.pointer (some ⟨q, 0, none⟩), .int .i64 m] w (Draw (fun r => 0 ≤ r ∧ r < m) w q v n) := by
  go_enter Try.func131, Try.ntmps131
  go_wp2_with fail
  refine (byte_any q n v w hc).mono ?_
  rintro e w1 ⟨r, ⟨h3, h4⟩, rfl, hc1, hg1⟩
  go_wp2_with fail
  go_ret
  exact ⟨r % m, ⟨Int.emod_nonneg _ (by omega), Int.emod_lt_of_pos _ (by omega)⟩, ret_int (by first | rfl | omega), hc1, hg1⟩

/-- A new cursor. -/
def NewCur (w : World) (v : Value) (n : Nat) (e : Ending) (w' : World) : Prop := e = .returned (.pointer (some ⟨w.heap.size, 0, none⟩)) ∧ Cur w' w.heap.size v n ∧ Below w.heap.size w w'
set_option maxHeartbeats 1000000 in
theorem new_any (v : Value) (n B : Nat) (w : World) (hv : RdU w B v n) (hB : B ≤ w.heap.size) :
    Calls Try.prog 64 #[v] w (NewCur w v n) := by
  have HV := Lib.hid (hv.more hB)
  obtain ⟨A, c, rfl, h1, h2, h3⟩ := hv
  unfold maxLen at h2
  go_enter Try.func64, Try.ntmps64
  go_wp2_with fail
  go_loop [3, 4] (fun h i => ∃ (k : Nat) (x : Int), k ≤ n ∧ k ≤ 4000 ∧ i = .int .i64 k ∧ h = .int .i64 x) (fun _ i => n - (intOf i).toNat)
  case atStart => exact ⟨0, _, by omega, by omega, rfl, rfl⟩
  case round =>
    obtain ⟨k, x, hk, hk2, rfl, rfl⟩ := hrel
    by_cases hlt : k < n
    · by_cases hlt2 : k < 4000
      · obtain ⟨ad, z, rfl, hbl, z0, z1, hz⟩ := h3 k hlt
        have b1 : decide ((k : Int) < (n : Int)) = true := by simp; omega
        have b2 : decide ((k : Int) < 4000) = true := by simp; omega
        go_wp2_with fail
        go_round
        case rel => exact ⟨k + 1, _, by omega, by omega, by go_num, rfl⟩
        case measure => simp [intOf]; omega
      · have b1 : decide ((k : Int) < (n : Int)) = true := by simp; omega
        have b2 : decide ((k : Int) < 4000) = false := by simp; omega
        go_wp2_with fail
        go_ret
        refine ⟨rfl, ⟨0, x, by omega, ?_, (HV.out.below ((Below.refl _ _).alloc (Nat.le_refl _) _))⟩, (Below.refl _ _).alloc (Nat.le_refl _) _⟩
        exact heap_alloc_new w _
    · have b1 : decide ((k : Int) < (n : Int)) = false := by simp; omega
      go_wp2_with fail
      go_ret
      refine ⟨rfl, ⟨0, x, by omega, ?_, (HV.out.below ((Below.refl _ _).alloc (Nat.le_refl _) _))⟩, (Below.refl _ _).alloc (Nat.le_refl _) _⟩
      exact heap_alloc_new w _
end Go.Proofs.Ytehnbalbpfmijaa

namespace Go.Proofs.Ytehnbalbpfmijaa
open Go.RowKit
set_option linter.unusedVariables false

theorem flips_neD {R : Nat} {ls : List Lk} (hk : chkF 40 R [] = true) (h : Til R ls) : 0 < (flipsZ ls).length ∧ (flipsZ ls).length ≤ 64 := by
  refine ⟨?_, flipsTo_len ls 64⟩
  obtain ⟨l, h1, h2⟩ := flip_some hk h
  obtain ⟨p1, p2, p3, p4⟩ := prt_quad (h.so.2 _ h1) (h.so.2 _ h2)
  obtain ⟨x, y, d⟩ := l
  obtain ⟨m, rfl⟩ := Int.eq_ofNat_of_zero_le p1.1
  obtain ⟨k, rfl⟩ := Int.eq_ofNat_of_zero_le p2.1
  have hi : inF (m : Int) (k : Int) = true := by
    unfold inF; rw [Bool.and_eq_true, inB_iff, inB_iff]
    have a := p1.2; have b := p2.2
    dsimp only at a b
    omega
  have hp := kind_of (ls := ls) hi d (by have := p3; dsimp only at this; rw [this]; exact h1) (by have := p4; dsimp only at this; rw [this]; exact h2)
  have a := p1.2; have b := p2.2
  dsimp only at a b
  refine flipsTo_has ls (k * 8 + m) ?_ 64 (by omega)
  rw [show (k * 8 + m) % 8 = m by omega, show (k * 8 + m) / 8 = k by omega]
  exact hp
theorem flips_atD {R : Nat} {ls : List Lk} (h : Til R ls) {c : Int × Int} (hc : c ∈ flipsZ ls) : (0 ≤ c.1 ∧ c.1 ≤ 6) ∧ (0 ≤ c.2 ∧ c.2 ≤ 6) ∧ ∃ d, kindZ ls c.1 c.2 = (if d then 2 else 1) ∧ Til R (sortI (flipL ls c.1 c.2 d) (flipL ls c.1 c.2 d).length) := by
  obtain ⟨⟨h1, h2⟩, d, h3, h4, h5⟩ := kind_pos (flipsTo_mem ls 64 c hc)
  exact ⟨h1, h2, d, h3, flip_til h h1 h2 h4 h5⟩
theorem til_fewD {R : Nat} {ls : List Lk} (h : Til R ls) : ls.length ≤ 32 := by
  have h1 := til_of h
  unfold sTileB at h1
  rw [Bool.and_eq_true, decide_eq_true_eq] at h1
  have := cntB_le R 64
  omega

/-- The cells of a diamond. -/
def dmR (s : Nat) : Nat := setZ (diamZ s)
def orders : List Nat := [1, 2, 3]
theorem mem_orders {s : Nat} (hs : s = 1 ∨ s = 2 ∨ s = 3) : s ∈ orders := by rcases hs with rfl | rfl | rfl <;> simp [orders]
theorem dm_lt {s : Nat} (hs : s = 1 ∨ s = 2 ∨ s = 3) : dmR s < 18446744073709551616 := by rcases hs with rfl | rfl | rfl <;> decide +kernel
theorem dflips_tab : (orders.all fun s => chkF 40 (dmR s) []) = true := by decide +kernel
theorem flips_dm {s : Nat} (hs : s = 1 ∨ s = 2 ∨ s = 3) : chkF 40 (dmR s) [] = true := List.all_eq_true.1 dflips_tab s (mem_orders hs)
theorem fst_dm_tab : (orders.all fun s => !(diamZ s).isEmpty && regOkB (diamZ s) && (decide (nCell (setZ (diamZ s)) 64 ≤ 37) && wayB (setZ (diamZ s)) 64 0 0) && chkR (s * (s + 1)) (diamZ s) && sTileB (dmR s) (fstL (s * (s + 1)) (diamZ s)) && decide (s * (s + 1) ≤ 32)) = true := by decide +kernel
theorem fst_dm {s : Nat} (hs : s = 1 ∨ s = 2 ∨ s = 3) : diamZ s ≠ [] ∧ regOkB (diamZ s) = true ∧ profZ (setZ (diamZ s)) ≠ 0 ∧ chkR (s * (s + 1)) (diamZ s) = true ∧ Til (dmR s) (fstL (s * (s + 1)) (diamZ s)) ∧ s * (s + 1) ≤ 32 := by
  have h := List.all_eq_true.1 fst_dm_tab s (mem_orders hs)
  rw [Bool.and_eq_true, Bool.and_eq_true, Bool.and_eq_true, Bool.and_eq_true, Bool.and_eq_true, decide_eq_true_eq] at h
  obtain ⟨⟨⟨⟨⟨a, b⟩, c⟩, d⟩, e⟩, f⟩ := h
  exact ⟨by intro h0; rw [h0] at a; simp at a, b, way_some c, d, til_to (dm_lt hs) e, f⟩

def DmDraw (w : World) (q : Nat) (v : Value) (n : Nat) (e : Ending) (w' : World) : Prop :=
  ∃ (s : Nat) (ls : List Lk) (u : Value), (s = 1 ∨ s = 2 ∨ s = 3) ∧ Til (dmR s) ls ∧ e = .returned (.tuple #[.int .i64 (s : Int), u]) ∧ OwnF elDomino w' w.heap.size u ls ∧ Cur w' q v n ∧ w.grownBy w' (some q)

set_option maxRecDepth 100000 in
set_option maxHeartbeats 2000000 in
theorem l17Tiling_any (q n : Nat) (v : Value) (w : World) (hc : Cur w q v n) :
    Calls Try.prog 72 #[.pointer (some ⟨q, 0, none⟩)] w (DmDraw w q v n) := by
  have HQ := Lib.hid hc.lt
  go_enter Try.func72, Try.ntmps72
  go_wp2_with fail
  refine (below_any q n v 3 w hc (by omega) (by omega)).mono ?_
  rintro e w1 ⟨r1, ⟨r10, r11⟩, rfl, hc1, hg1⟩
  have HC1 := Lib.hid hc1
  have HG1 := Lib.hid hg1
  obtain ⟨s, hs⟩ : ∃ s : Nat, 1 + r1 = (s : Int) := ⟨(1 + r1).toNat, by omega⟩
  have hcond : s = 1 ∨ s = 2 ∨ s = 3 := by omega
  have hs1 : IntKind.i64.wrap (1 + r1) = (s : Int) := by rw [IntWalk.i64_in _ (by omega)]; exact hs
  obtain ⟨hzne, hzok, hzp, hzc, htil, hnn⟩ := fst_dm hcond
  have hck : chkF 40 (dmR s) [] = true := flips_dm hcond
  have HRC := Lib.hid (specDiamond_yes s (by omega))
  clear hc hc1 hg1
  go_wp2_with fail
  try rw [hs]
  refine (HRC.out _).mono ?_
  rintro e w2 ⟨u2, rfl, hr2, hb2⟩
  have HB2 := Lib.hid hb2
  have HC2 := Lib.hid (HC1.out.below hb2)
  have HG2 := Lib.hid (grownBy_below HG1.out hb2)
  have HFST := Lib.hid (FirstTiling_yes u2 (diamZ s) _ w2 hr2 (Nat.le_refl _) hzne (s * (s + 1)) hnn hzok hzp hzc)
  have HTIL0 : Hid (Til (dmR s) (fstL (s * (s + 1)) (diamZ s))) := htil
  have HCK : Hid (chkF 40 (dmR s) [] = true) := hck
  have HCO : Hid ((s = 1 ∨ s = 2 ∨ s = 3)) := hcond
  obtain ⟨A2, c2, rfl, _, _, _⟩ := hr2
  clear hb2 hzne hzok hzp hzc htil hck hcond
  generalize fstL (s * (s + 1)) (diamZ s) = l0 at *
  clear hnn
  go_wp2_with fail
  refine HFST.out.mono ?_
  rintro e w3 ⟨u3, rfl, ho3, hb3⟩
  have HC3 := Lib.hid (HC2.out.below hb3)
  have HG3 := Lib.hid (grownBy_below HG2.out hb3)
  have HO3 := Lib.hid (ho3.mono HG2.out.size)
  obtain ⟨A3, c3, rfl, _, _, _⟩ := ho3.rd okDomino
  clear ho3 hb3 HFST
  go_wp2_with fail
  refine (below_any q n v 14 w3 HC3.out (by omega) (by omega)).mono ?_
  rintro e w4 ⟨r4, ⟨r40, r41⟩, rfl, hc4, hg4⟩
  have HC4 := Lib.hid hc4
  have HG4 := Lib.hid (HG3.out.trans hg4)
  have HO4 := Lib.hid (HO3.out.kept hg4 fun k hk e => by have h1 := (HO3.out.lt k hk).1; have h2 := HQ.out; simp only [Option.some.injEq] at e; omega)
  clear hc4 hg4
  obtain ⟨k4, rfl⟩ := Int.eq_ofNat_of_zero_le r40
  go_wp2_with fail
  go_loopw [5, 7] (fun l i wr => ∃ (k : Nat) (ls : List Lk) (u : Value), k ≤ 20 ∧ i = .int .i64 (k : Int) ∧ u = l ∧ Hid (Til (dmR s) ls) ∧ Hid (OwnF elDomino wr w.heap.size u ls) ∧ Hid (Cur wr q v n) ∧ Hid (w.grownBy wr (some q))) (fun _ i _ => (intOf i).toNat)
  case atStart => exact ⟨k4, _, _, by omega, rfl, rfl, HTIL0, HO4, HC4, HG4⟩
  case round =>
    obtain ⟨k, ls, u, hk, rfl, rfl, HT, HO, HC, HG⟩ := hrel
    obtain ⟨Au, cu, rfl, q1, q2, _⟩ := HO.out.rd okDomino
    unfold maxLen at q2
    by_cases hk0 : 0 < k
    · have ht : decide (0 < k) = true := by rw [decide_eq_true_eq]; exact hk0
      have hti : decide ((0 : Int) < (k : Int)) = true := by rw [decide_eq_true_eq]; omega
      have HFO := Lib.hid (FlipsOf_any _ ls _ wr (HO.out.rd okDomino) (Nat.le_refl _))
      obtain ⟨hf0, hf64⟩ := flips_neD HCK.out HT.out
      have HFA := Lib.hid (fun c hc => flips_atD HT.out (c := c) hc)
      have hlen := til_fewD HT.out
      generalize flipsZ ls = fs at *
      go_wp2_with fail
      refine HFO.out.mono ?_
      rintro e w5 ⟨u5, rfl, ho5, hb5⟩
      have HC5 := Lib.hid (HC.out.below hb5)
      have HG5 := Lib.hid (grownBy_below HG.out hb5)
      have HO5 := Lib.hid (HO.out.below hb5)
      have HF5 := Lib.hid ho5
      obtain ⟨A5, c5, hv5, q3, q4, _⟩ := ho5.rd okCell
      subst hv5
      unfold maxLen at q4
      have HSW : Hid (w.heap.size ≤ wr.heap.size) := HG.out.size
      clear ho5 hb5 HFO
      go_wp2_with fail
      refine (below_any q n v (fs.length : Int) w5 HC5.out (by omega) (by omega)).mono ?_
      rintro e w6 ⟨r6, ⟨r60, r61⟩, rfl, hc6, hg6⟩
      have HC6 := Lib.hid hc6
      have HG6 := Lib.hid (HG5.out.trans hg6)
      have HO6 := Lib.hid (HO5.out.kept hg6 fun k hk e => by have h1 := (HO5.out.lt k hk).1; have h2 := HQ.out; simp only [Option.some.injEq] at e; omega)
      have HF6 := Lib.hid (HF5.out.kept hg6 fun k hk e => by have h1 := (HF5.out.lt k hk).1; have h2 := HQ.out; have h3 := HSW.out; simp only [Option.some.injEq] at e; omega)
      clear hc6 hg6
      obtain ⟨j, rfl⟩ := Int.eq_ofNat_of_zero_le r60
      have hj : j < fs.length := by omega
      obtain ⟨A9, c9, he, _, _, G9⟩ := RdD.of (E := elCell) rfl (fun _ => rfl) (HF6.out.rd okCell)
      simp only [Value.slice.injEq, true_and] at he
      obtain ⟨rfl, rfl⟩ := he
      obtain ⟨ad, rfl, hbl, hcx, hcy⟩ := G9.out j hj
      have hmem : (dx fs j, dy fs j) ∈ fs := by
        have : (dx fs j, dy fs j) = fs[j] := by simp [dx, dy, hj]
        rw [this]; exact List.getElem_mem hj
      obtain ⟨hx6, hy6, d, hkd, htn⟩ := HFA.out _ hmem
      dsimp only at hx6 hy6 hkd htn
      generalize dx fs j = x at *
      generalize dy fs j = y at *
      have HTN := Lib.hid htn
      have HFL := Lib.hid (FlipAt_yes _ ls x y d _ w6 (HO6.out.rd okDomino) (Nat.le_refl _) (by omega) hx6 hy6 hkd)
      have hj0 : (0 : Int) ≤ (j : Int) := by omega
      have hj1 : (j : Int) < (fs.length : Int) := by omega
      have HSW6 : Hid (w.heap.size ≤ w6.heap.size) := HG6.out.size
      clear htn hkd hmem G9 hbl
      generalize sortI (flipL ls x y d) (flipL ls x y d).length = l7 at *
      go_wp2_with fail
      refine HFL.out.mono ?_
      rintro e w7 ⟨u7, rfl, ho7, hb7⟩
      have HC7 := Lib.hid (HC6.out.below hb7)
      have HG7 := Lib.hid (grownBy_below HG6.out hb7)
      have HO7 := Lib.hid (ho7.mono HSW6.out)
      obtain ⟨A7, c7, rfl, _, _, _⟩ := ho7.rd okDomino
      have hw1 : IntKind.i64.wrap ((k : Int) - 1) = ((k - 1 : Nat) : Int) := by rw [IntWalk.i64_in _ (by omega)]; omega
      have hw2 : (k : Int) - 1 = ((k - 1 : Nat) : Int) := by omega
      clear ho7 hb7 HFL
      go_wp2_with fail
      go_roundw
      case rel => exact ⟨k - 1, _, _, by omega, (by first | rfl | (simp [hw2])), rfl, HTN, HO7, HC7, HG7⟩
      case measure => simp [intOf]; omega
    · obtain rfl : k = 0 := by omega
      go_wp2_with fail
      refine bodyPost_ret (v := .tuple #[.int .i64 (s : Int), .slice Au ls.length cu]) (by simp [results, Try.results72, go_sem]) rfl ⟨s, ls, _, HCO.out, HT.out, rfl, HO.out, HC.out, HG.out⟩
end Go.Proofs.Ytehnbalbpfmijaa
