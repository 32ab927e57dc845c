/- What the claim's walk rests on: parts Num, WFnTemperley. -/
import Derived.Test.YtehnbalbpfmijaaKt4
import Derived.Test.YtehnbalbpfmijaaKt15
import Derived.Test.YtehnbalbpfmijaaKt16
import Derived.Test.YtehnbalbpfmijaaKt18
import Derived.Test.YtehnbalbpfmijaaKt17
import Derived.Test.YtehnbalbpfmijaaKt19
import Derived.Test.YtehnbalbpfmijaaKt11
import Derived.Test.YtehnbalbpfmijaaKt5
import Derived.Test.YtehnbalbpfmijaaFrameBKt
import Derived.Deep.RegionHeld3
import Derived.Deep.QuietTactic
import Derived.BigQuiet
namespace Go.Proofs.Ytehnbalbpfmijaa
open Go.RowKit

section
variable {α : Type} (sz : α → Nat) (mk : Int → α → α)
/-- How many numbers stand ahead of the i-th element. -/
def cntTo (xs : List α) : Nat → Nat
  | 0 => 0
  | i + 1 => cntTo xs i + (xs[i]?.elim 0 sz)
/-- The first j elements marked. -/
def mixN (k : Int) (xs : List α) (j : Nat) : List α := xs.mapIdx fun i x => if i < j then mk (k + (cntTo sz xs i : Int)) x else x
def iotaN (k : Int) (xs : List α) : List α := xs.mapIdx fun i x => mk (k + (cntTo sz xs i : Int)) x
variable {sz mk}
theorem cntTo_mono (xs : List α) (i : Nat) : ∀ n, i ≤ n → cntTo sz xs i ≤ cntTo sz xs n := by
  intro n
  induction n with
  | zero => intro h; obtain rfl : i = 0 := by omega
            exact Nat.le_refl _
  | succ n ih => intro h
                 by_cases e : i = n + 1
                 · subst e; exact Nat.le_refl _
                 · exact Nat.le_trans (ih (by omega)) (Nat.le_add_right _ _)
theorem cntTo_succ (xs : List α) (i : Nat) (h : i < xs.length) : cntTo sz xs (i + 1) = cntTo sz xs i + sz xs[i] := by
  simp [cntTo, h]
theorem mixN_length (k : Int) (xs : List α) (j : Nat) : (mixN sz mk k xs j).length = xs.length := by simp [mixN]
theorem iotaN_length (k : Int) (xs : List α) : (iotaN sz mk k xs).length = xs.length := by simp [iotaN]
theorem mixN_at (k : Int) (xs : List α) (j : Nat) (h : j < xs.length) : (mixN sz mk k xs j)[j]? = some xs[j] := by simp [mixN, h]
theorem iotaN_at (k : Int) (xs : List α) (j : Nat) (h : j < xs.length) : (iotaN sz mk k xs)[j]? = some (mk (k + (cntTo sz xs j : Int)) xs[j]) := by simp [iotaN, h]
theorem mixN_zero (k : Int) (xs : List α) : mixN sz mk k xs 0 = xs := by
  apply List.ext_getElem
  · simp [mixN]
  · intro i h1 h2; simp [mixN]
theorem mixN_all (k : Int) (xs : List α) : mixN sz mk k xs xs.length = iotaN sz mk k xs := by
  apply List.ext_getElem
  · simp [mixN, iotaN]
  · intro i h1 h2
    have : i < xs.length := by simpa [iotaN] using h2
    simp [mixN, iotaN, this]
theorem mixN_set (k : Int) (xs : List α) (j : Nat) (h : j < xs.length) : (mixN sz mk k xs j).set j (mk (k + (cntTo sz xs j : Int)) xs[j]) = mixN sz mk k xs (j + 1) := by
  apply List.ext_getElem
  · simp [mixN]
  · intro i h1 h2
    rw [List.getElem_set]
    by_cases e : j = i
    · subst e; simp [mixN]
    · by_cases e2 : i < j
      · simp [mixN, e, e2, show i < j + 1 by omega]
      · simp [mixN, e, e2, show ¬ i < j + 1 by omega]
end
theorem RdN.open_ {α : Type} {R : World → Nat → Value → α → Prop} {w : World} {B : Nat} {v : Value} {xs : List α} (h : RdN R w B v xs) : ∃ A c, v = .slice A xs.length c ∧ xs.length ≤ c ∧ c ≤ maxLen ∧ ∀ i, (hi : i < xs.length) → ∃ (ad : Addr) (s : Sl), A = some ad ∧ ad.block < B ∧ w.cell? (ad.add i) = some (slV s) ∧ R w B (slV s) xs[i] := by
  obtain ⟨A, c, e, h1, h2, h3⟩ := h
  exact ⟨A, c, e, h1, h2, fun i hi => h3 i _ (List.getElem?_eq_getElem hi)⟩
end Go.Proofs.Ytehnbalbpfmijaa

namespace Go.Proofs.Ytehnbalbpfmijaa
open Go.RowKit
set_option linter.unusedVariables false

theorem neq_lnk (a b : Int) (c : Bool) (x y : Int) (z : Bool) (W : World) : Sem.run Try.prog (binOp .neq 68 (.agg #[.int .i64 a, .int .i64 b, .bool c]) (.agg #[.int .i64 x, .int .i64 y, .bool z])) W = .ok (.bool (((a, b, c) : Lk) != (x, y, z))) W := by
  by_cases h1 : a = x
  · by_cases h2 : b = y
    · by_cases h3 : c = z
      · subst h1; subst h2; subst h3
        rw [show (((a, b, c) : Lk) != (a, b, c)) = false by simp]
        go_simp
      · rw [show (((a, b, c) : Lk) != (x, y, z)) = true by simp [h3]]
        go_simp
    · rw [show (((a, b, c) : Lk) != (x, y, z)) = true by simp [h2]]
      go_simp
  · rw [show (((a, b, c) : Lk) != (x, y, z)) = true by simp [h1]]
    go_simp

/-- A drawn tree, its links in order. -/
def TreeRetO (w : World) (e : Ending) (w' : World) : Prop :=
  ∃ (a b : Nat) (ls : List Lk) (u : Value), gridB a b = true ∧ treeO a b ls ∧ e = .returned (.tuple #[.int .i64 a, .int .i64 b, u]) ∧ OwnF elLink w' w.heap.size u ls ∧ Below w.heap.size w w'
theorem DrawTreeO_any (v : Value) (n B : Nat) (w : World) (hv : RdU w B v n) (hB : B ≤ w.heap.size) :
    Calls Try.prog 47 #[v] w (TreeRetO w) := by
  go_enter Try.func47, Try.ntmps47
  go_wp2_with fail
  refine (new_any v n B w hv hB).mono ?_
  rintro e w1 ⟨rfl, hc1, hb1⟩
  go_wp2_with fail
  refine (l23Tree_any _ n v w1 hc1).mono ?_
  rintro e w2 ⟨a, b, ls, u, hg, ht, rfl, ho, hc2, hg2⟩
  go_wp2_with fail
  go_ret3
  exact ⟨a, b, ls, u, hg, ht, rfl, ho.mono hb1.size, below_young hb1 hg2 (Nat.le_refl _)⟩
theorem flips_atT {R : Nat} {ls : List Lk} (h : Til R ls) {c : Int × Int} (hc : c ∈ flipsZ ls) : (0 ≤ c.1 ∧ c.1 ≤ 6) ∧ (0 ≤ c.2 ∧ c.2 ≤ 6) ∧ ∃ d, kindZ ls c.1 c.2 = (if d then 2 else 1) ∧ Til R (sortI (flipL ls c.1 c.2 d) (flipL ls c.1 c.2 d).length) := by
  obtain ⟨⟨h1, h2⟩, d, h3, h4, h5⟩ := kind_pos (flipsTo_mem ls 64 c hc)
  exact ⟨h1, h2, d, h3, flip_til h h1 h2 h4 h5⟩
theorem til_fewT {R : Nat} {ls : List Lk} (h : Til R ls) : ls.length ≤ 32 := by
  have h1 := til_of h
  unfold sTileB at h1
  rw [Bool.and_eq_true, decide_eq_true_eq] at h1
  have := cntB_le R 64
  omega

set_option maxRecDepth 100000 in
set_option maxHeartbeats 8000000 in
theorem walkFnTemperley (u : Value) (n : Nat) (w : World) (hu : RdU w w.heap.size u n) :
    Calls Try.prog 9 #[u] w fun e w' => e = .returned (.bool true) ∧ Below w.heap.size w w' := by
  have HU := Lib.hid hu
  clear hu
  by_cases c1 : (1048576 : Int) < (n : Int)
  · go_enter Try.func9, Try.ntmps9
    go_wp2_with fail
    refine (big_any _ n _ _ HU.out).mono ?_
    rintro e w1 ⟨rfl, rfl⟩
    go_wp2_with fail
    go_ret
    exact ⟨rfl, Below.refl _ _⟩
  · go_enter Try.func9, Try.ntmps9
    go_wp2_with fail
    refine (big_any _ n _ _ HU.out).mono ?_
    rintro e w0 ⟨rfl, rfl⟩
    go_wp2_with fail
    refine (DrawTreeO_any _ n _ _ HU.out (Nat.le_refl _)).mono ?_
    rintro e w1 ⟨a, b, ls, v1, hg, ⟨ht, hsub⟩, rfl, ho1, hb1⟩
    have hbx := (gridB_iff _ _).1 hg
    have HG := Lib.hid hg
    have HT := Lib.hid ht
    have htil := tilZ_til ht
    have htb := (til_tot hg htil).2.2
    have hback := tree_back ht hsub
    have htq := tilQ_nat ht
    have hreg := flR_ok hg
    obtain ⟨hfc, hcc⟩ := floor_num hg
    have htz : totZ a b (tilZ a b ls) = ls := by rw [totZ, htb, if_pos rfl]; exact hback
    have HFC := Lib.hid hfc; have HCC := Lib.hid hcc; have HREG := Lib.hid hreg
    have HANY : Hid (∀ x, Til (setZ (floorZ a b)) x → totB a b x = true ∧ treeB a b (totZ a b x) = true) := fun x hx => ⟨(til_tot hg hx).2.2, by rw [totZ, (til_tot hg hx).2.2, if_pos rfl]; exact (til_tot hg hx).1⟩
    have HB1 := Lib.hid hb1
    obtain ⟨A1, k1, hv1, q1, q2, _⟩ := ho1.rd okLink
    have HR1 := Lib.hid (ho1.rd okLink)
    subst hv1
    unfold maxLen at q2
    have HTIL := Lib.hid (Til_any (a : Int) b (.slice A1 ls.length k1) ls _ w1 HR1.out (Nat.le_refl _))
    rw [ht, htq] at HTIL
    have HTT := Lib.hid htil
    have HTB := Lib.hid htb
    have HTZ := Lib.hid htz
    clear ho1 hb1 hg ht hsub htil htb hback htq hreg hfc hcc htz
    generalize tilZ a b ls = t at *
    go_wp2_with fail
    refine HTIL.out.mono ?_
    rintro e w2 ⟨u2, rfl, ho2, hb2⟩
    have HB2 := Lib.hid (HB1.out.trans (hb2.mono HB1.out.size))
    have HR2 := Lib.hid ((HR1.out.below hb2).more hb2.size)
    have HD2 := Lib.hid (ho2.rd okDomino)
    obtain ⟨A2, k2, hu2, r1, r2, _⟩ := ho2.rd okDomino
    subst hu2
    unfold maxLen at r2
    have HTO := Lib.hid (Tot_any (a : Int) b (.slice A2 t.length k2) t _ w2 HD2.out (Nat.le_refl _))
    rw [HTB.out, HTZ.out] at HTO
    clear ho2 hb2 HTIL
    go_wp2_with fail
    refine HTO.out.mono ?_
    rintro e w3 ⟨u3, rfl, ho3, hb3⟩
    have HB3 := Lib.hid (HB2.out.trans (hb3.mono HB2.out.size))
    have HR3 := Lib.hid ((HR2.out.below hb3).more hb3.size)
    have HD3 := Lib.hid ((HD2.out.below hb3).more hb3.size)
    obtain ⟨A3, k3, hu3, p1, p2, G3⟩ := RdT.of (E := elLink) rfl (fun _ => rfl) (ho3.rd okLink)
    obtain ⟨A1', k1', e1', _, _, G1⟩ := RdT.of (E := elLink) rfl (fun _ => rfl) HR3.out
    simp only [Value.slice.injEq, true_and] at e1'
    obtain ⟨rfl, rfl⟩ := e1'
    subst hu3
    unfold maxLen at p2
    clear ho3 hb3 HTO HTZ HTB
    have hne : ((ls.length : Int) != (ls.length : Int)) = false := by simp
    go_wp2_with fail
    go_loopw [10] (fun i wr => ∃ k : Nat, k ≤ ls.length ∧ i = .int .i64 (k : Int) ∧ Hid (Below w3.heap.size w3 wr)) (fun i _ => ls.length - (intOf i).toNat)
    case atStart => exact ⟨0, Nat.zero_le _, rfl, Below.refl _ _⟩
    case round =>
      obtain ⟨k, hk, rfl, HBR⟩ := hrel
      by_cases hlt : k < ls.length
      · have htk : decide ((k : Int) < (ls.length : Int)) = true := by simp only [decide_eq_true_eq]; omega
        obtain ⟨ad3, rfl, hbl3, hx3, hy3, hd3⟩ := G3.out k hlt
        obtain ⟨ad1, rfl, hbl1, hx1, hy1, hd1⟩ := G1.out k hlt
        have hl3 : (ad3.add (k * 3)).block < w3.heap.size := by rw [addBlock]; exact hbl3
        have hl1 : (ad1.add (k * 3)).block < w3.heap.size := by rw [addBlock]; exact hbl1
        have hx3 := (HBR.out.cell hl3).trans hx3
        have hy3 := (HBR.out.cell (p := ⟨(ad3.add (k * 3)).block, (ad3.add (k * 3)).off + 1, none⟩) hl3).trans hy3
        have hd3 := (HBR.out.cell (p := ⟨(ad3.add (k * 3)).block, (ad3.add (k * 3)).off + 2, none⟩) hl3).trans hd3
        have hx1 := (HBR.out.cell hl1).trans hx1
        have hy1 := (HBR.out.cell (p := ⟨(ad1.add (k * 3)).block, (ad1.add (k * 3)).off + 1, none⟩) hl1).trans hy1
        have hd1 := (HBR.out.cell (p := ⟨(ad1.add (k * 3)).block, (ad1.add (k * 3)).off + 2, none⟩) hl1).trans hd1
        have hk0 : (0 : Int) ≤ (k : Int) := by omega
        have hk1 : (k : Int) < (ls.length : Int) := by omega
        generalize lx ls k = x at *
        generalize ly ls k = y at *
        generalize ld ls k = z at *
        have hnq : ∀ W : World, Sem.run Try.prog (binOp .neq 68 (.agg #[.int .i64 x, .int .i64 y, .bool z]) (.agg #[.int .i64 x, .int .i64 y, .bool z])) W = .ok (.bool false) W := fun W => by rw [neq_lnk]; simp
        go_wp2_with fail
        go_quiet (fail)
        go_wp2_with fail
        go_roundw
        case rel => exact ⟨k + 1, by omega, by go_num, HBR.out.trans ((show Drawn wr _ from ⟨_, rfl⟩).below _)⟩
        case measure => simp [intOf]; omega
      · obtain rfl : k = ls.length := by omega
        have htk : decide ((ls.length : Int) < (ls.length : Int)) = false := by simp
        have HD4 := Lib.hid ((HD3.out.below HBR.out).more HBR.out.size)
        have HB4 := Lib.hid (HB3.out.trans (HBR.out.mono HB3.out.size))
        clear HBR G1 G3 HR1 HR2 HR3 HD2 HD3 HB2 HB3 hne
        have HF := Lib.hid (FlipsOf_any (.slice A2 t.length k2) t _ wr HD4.out (Nat.le_refl _))
        have hfl : (flipsZ t).length ≤ 64 := flipsTo_len t 64
        have HFA := Lib.hid (fun c hc => flips_atT HTT.out (c := c) hc)
        have htl := til_fewT HTT.out
        generalize flipsZ t = fs at *
        go_wp2_with fail
        refine HF.out.mono ?_
        rintro e w5 ⟨u5, rfl, ho5, hb5⟩
        have HB5 := Lib.hid (HB4.out.trans (hb5.mono HB4.out.size))
        have HD5 := Lib.hid ((HD4.out.below hb5).more hb5.size)
        obtain ⟨A5, c5, hv5, q3, q4, G5⟩ := RdD.of (E := elCell) rfl (fun _ => rfl) (ho5.rd okCell)
        subst hv5
        unfold maxLen at q4
        clear ho5 hb5 HF HD4 HB4
        by_cases h0 : 0 < fs.length
        · have htf : decide ((0 : Int) < (fs.length : Int)) = true := by simp only [decide_eq_true_eq]; omega
          have htf2 : decide (0 < fs.length) = true := by simp only [decide_eq_true_eq]; omega
          go_wp2_with fail
          refine (at_any _ n _ 0 _ (HU.out.below HB5.out) (by omega) (by omega)).mono ?_
          rintro e w' ⟨z0, z00, z01, rfl, rfl⟩
          obtain ⟨j, hj⟩ : ∃ j : Nat, z0 % (fs.length : Int) = (j : Int) := ⟨(z0 % (fs.length : Int)).toNat, by have := Int.emod_nonneg z0 (show (fs.length : Int) ≠ 0 by omega); omega⟩
          have hjl : j < fs.length := by have := Int.emod_lt_of_pos z0 (show (0 : Int) < (fs.length : Int) by omega); omega
          have hj0 : (0 : Int) ≤ (j : Int) := by omega
          have hj1 : (j : Int) < (fs.length : Int) := by omega
          have hLz : (fs.length == 0) = false := by rw [beq_eq_false_iff_ne]; omega
          have hLn : ((fs.length : Int) == 0) = false := by rw [beq_eq_false_iff_ne]; omega
          have hjt : Int.tmod z0 (fs.length : Int) = (j : Int) := by rw [Int.tmod_eq_emod_of_nonneg z00]; exact hj
          obtain ⟨ad, rfl, hbl, hcx, hcy⟩ := G5.out j hjl
          have hmem : (dx fs j, dy fs j) ∈ fs := by
            have : (dx fs j, dy fs j) = fs[j] := by simp [dx, dy, hjl]
            rw [this]; exact List.getElem_mem hjl
          obtain ⟨hx6, hy6, d, hkd, htn⟩ := HFA.out _ hmem
          dsimp only at hx6 hy6 hkd htn
          generalize dx fs j = x at *
          generalize dy fs j = y at *
          obtain ⟨hx1, hx2⟩ := HANY.out _ htn
          have HX1 := Lib.hid hx1
          have HX2 := Lib.hid hx2
          have HFL := Lib.hid (FlipAt_yes _ t x y d _ w5 HD5.out (Nat.le_refl _) (by omega) hx6 hy6 hkd)
          clear htn hkd hmem G5 hbl hx1 hx2
          generalize sortI (flipL t x y d) (flipL t x y d).length = l7 at *
          go_wp2_with fail
          try rw [hj]
          refine HFL.out.mono ?_
          rintro e w6 ⟨u6, rfl, ho6, hb6⟩
          have HB6 := Lib.hid (HB5.out.trans (hb6.mono HB5.out.size))
          have HD6 := Lib.hid ((HD5.out.below hb6).more hb6.size)
          have HTO := Lib.hid (Tot_any (a : Int) b u6 l7 _ w6 (ho6.rd okDomino) (Nat.le_refl _))
          rw [HX1.out] at HTO
          obtain ⟨A6, c6, hu6, _, _, _⟩ := ho6.rd okDomino
          subst hu6
          clear ho6 hb6 HFL HD5 HB5
          go_wp2_with fail
          refine HTO.out.mono ?_
          rintro e w7 ⟨u7, rfl, ho7, hb7⟩
          have HB7 := Lib.hid (HB6.out.trans (hb7.mono HB6.out.size))
          have HD7 := Lib.hid ((HD6.out.below hb7).more hb7.size)
          have HIT := Lib.hid (specIsTree_any (a : Int) b u7 (totZ a b l7) _ w7 (ho7.rd okLink) (Nat.le_refl _))
          rw [HX2.out] at HIT
          obtain ⟨A7, c7, hu7, _, _, _⟩ := ho7.rd okLink
          subst hu7
          clear ho7 hb7 HTO HB6 HD6
          go_wp2_with fail
          refine HIT.out.mono ?_
          rintro e w8 ⟨rfl, hb8⟩
          have HB8 := Lib.hid (HB7.out.trans (hb8.mono HB7.out.size))
          have HD8 := Lib.hid ((HD7.out.below hb8).more hb8.size)
          clear hb8 HIT HB7 HD7
          have HTF := Lib.hid (TreeFloor_any (a : Int) b w8)
          go_wp2_with fail
          refine HTF.out.mono ?_
          rintro e x1 ⟨f1, rfl, hf1, hx1⟩
          have HBX1 := Lib.hid (HB8.out.trans (hx1.mono HB8.out.size))
          have HDX1 := Lib.hid ((HD8.out.below hx1).more hx1.size)
          obtain ⟨x2, hW2, kk2, bb2⟩ := one_alloc x1 (.cells #[f1] 39)
          have hcr := Lib.hid (cell_of_one kk2)
          have hlr : Hid (x1.heap.size < x2.heap.size) := lt_of_block kk2
          have HF2 := Lib.hid ((hf1.rd.below bb2).more bb2.size)
          have HBX2 := Lib.hid (HBX1.out.trans (bb2.mono HBX1.out.size))
          have HDX2 := Lib.hid ((HDX1.out.below bb2).more bb2.size)
          have HV := Lib.hid hW2
          have m8 : x2.cell? ⟨x1.heap.size, 0, none⟩ = some f1 := hcr.out
          rw [hW2] at m8
          obtain ⟨Af, kf, rfl, _, _, _⟩ := hf1.rd
          clear hW2 kk2 bb2 hf1 hx1 HTF HBX1 HDX1
          go_wp2_with fail
          rw [← HV.out]
          clear m8 HV
          obtain ⟨pr, hpr⟩ : ∃ pr, x1.heap.size = pr := ⟨_, rfl⟩
          rw [hpr] at hcr hlr ⊢
          have hcr := hcr.out
          have hlr := hlr.out
          clear hpr
          have HIT := Lib.hid (specIsTiling_yes _ (.slice A2 t.length k2) (floorZ a b) t _ x2 HF2.out HDX2.out (Nat.le_refl _) HREG.out)
          rw [til_of HTT.out] at HIT
          refine HIT.out.mono ?_
          rintro e x3 ⟨rfl, hx3⟩
          have HBX3 := Lib.hid (HBX2.out.trans (hx3.mono HBX2.out.size))
          have HF3 := Lib.hid ((HF2.out.below hx3).more hx3.size)
          have hcr3 : x3.cell? ⟨pr, 0, none⟩ = some (.slice Af (floorZ a b).length kf) := (hx3.cell (p := ⟨pr, 0, none⟩) hlr).trans hcr
          have hlr3 : pr < x3.heap.size := Nat.lt_of_lt_of_le hlr hx3.size
          clear hx3 hcr hlr HIT
          have HFLC := Lib.hid (FloorCount_any (a : Int) b x3)
          rw [HFC.out] at HFLC
          obtain ⟨cz, HCZ⟩ : ∃ cz, Hid (countTreesZ a b = cz) := ⟨_, rfl⟩
          rw [HCZ.out] at HFLC
          go_wp2_with fail
          refine HFLC.out.mono ?_
          rintro e x4 ⟨rfl, hx4⟩
          have HBX4 := Lib.hid (HBX3.out.trans (hx4.mono HBX3.out.size))
          have HF4 := Lib.hid ((HF3.out.below hx4).more hx4.size)
          have hcr4 : x4.cell? ⟨pr, 0, none⟩ = some (.slice Af (floorZ a b).length kf) := (hx4.cell (p := ⟨pr, 0, none⟩) hlr3).trans hcr3
          have hlr4 : pr < x4.heap.size := Nat.lt_of_lt_of_le hlr3 hx4.size
          clear hx4 hcr3 hlr3 HFLC
          have HCT := Lib.hid (specCountTrees_any (a : Int) b x4)
          rw [HCZ.out] at HCT
          go_wp2_with fail
          refine HCT.out.mono ?_
          rintro e x5 ⟨rfl, hx5⟩
          have HBX5 := Lib.hid (HBX4.out.trans (hx5.mono HBX4.out.size))
          have HF5 := Lib.hid ((HF4.out.below hx5).more hx5.size)
          have hcr5 : x5.cell? ⟨pr, 0, none⟩ = some (.slice Af (floorZ a b).length kf) := (hx5.cell (p := ⟨pr, 0, none⟩) hlr4).trans hcr4
          clear hx5 hcr4 HCT
          have hczq : (cz == cz) = true := by simp
          have HCL := Lib.hid (CountCells_yes _ (floorZ a b) _ x5 HF5.out (Nat.le_refl _) HREG.out)
          obtain ⟨m, hm⟩ : ∃ m : Int, (2 * (a : Int) - 1) * (2 * (b : Int) - 1) = m := ⟨_, rfl⟩
          have hmb : 0 ≤ m ∧ m ≤ 49 := by
            rw [← hm]
            exact ⟨Int.mul_nonneg (by omega) (by omega), Int.le_trans (Int.mul_le_mul (show 2 * (a : Int) - 1 ≤ 7 by omega) (show 2 * (b : Int) - 1 ≤ 7 by omega) (by omega) (by omega)) (by decide)⟩
          rw [HCC.out, hm] at HCL
          have hmq : (m - 1 == m - 1) = true := by simp
          go_wp2_with fail
          refine HCL.out.mono ?_
          rintro e x6 ⟨rfl, hx6⟩
          have HBX6 := Lib.hid (HBX5.out.trans (hx6.mono HBX5.out.size))
          go_wp2_with fail
          try simp only [hm]
          go_ret
          exact ⟨rfl, HBX6.out⟩
        · have hz : fs.length = 0 := by omega
          have htf : decide ((0 : Int) < (fs.length : Int)) = false := by simp only [decide_eq_false_iff_not]; omega
          have htf2 : decide (0 < fs.length) = false := by simp only [decide_eq_false_iff_not]; omega
          clear hz
          have HTF := Lib.hid (TreeFloor_any (a : Int) b w5)
          go_wp2_with fail
          refine HTF.out.mono ?_
          rintro e x1 ⟨f1, rfl, hf1, hx1⟩
          have HBX1 := Lib.hid (HB5.out.trans (hx1.mono HB5.out.size))
          have HDX1 := Lib.hid ((HD5.out.below hx1).more hx1.size)
          obtain ⟨x2, hW2, kk2, bb2⟩ := one_alloc x1 (.cells #[f1] 39)
          have hcr := Lib.hid (cell_of_one kk2)
          have hlr : Hid (x1.heap.size < x2.heap.size) := lt_of_block kk2
          have HF2 := Lib.hid ((hf1.rd.below bb2).more bb2.size)
          have HBX2 := Lib.hid (HBX1.out.trans (bb2.mono HBX1.out.size))
          have HDX2 := Lib.hid ((HDX1.out.below bb2).more bb2.size)
          have HV := Lib.hid hW2
          have m8 : x2.cell? ⟨x1.heap.size, 0, none⟩ = some f1 := hcr.out
          rw [hW2] at m8
          obtain ⟨Af, kf, rfl, _, _, _⟩ := hf1.rd
          clear hW2 kk2 bb2 hf1 hx1 HTF HBX1 HDX1
          go_wp2_with fail
          rw [← HV.out]
          clear m8 HV
          obtain ⟨pr, hpr⟩ : ∃ pr, x1.heap.size = pr := ⟨_, rfl⟩
          rw [hpr] at hcr hlr ⊢
          have hcr := hcr.out
          have hlr := hlr.out
          clear hpr
          have HIT := Lib.hid (specIsTiling_yes _ (.slice A2 t.length k2) (floorZ a b) t _ x2 HF2.out HDX2.out (Nat.le_refl _) HREG.out)
          rw [til_of HTT.out] at HIT
          refine HIT.out.mono ?_
          rintro e x3 ⟨rfl, hx3⟩
          have HBX3 := Lib.hid (HBX2.out.trans (hx3.mono HBX2.out.size))
          have HF3 := Lib.hid ((HF2.out.below hx3).more hx3.size)
          have hcr3 : x3.cell? ⟨pr, 0, none⟩ = some (.slice Af (floorZ a b).length kf) := (hx3.cell (p := ⟨pr, 0, none⟩) hlr).trans hcr
          have hlr3 : pr < x3.heap.size := Nat.lt_of_lt_of_le hlr hx3.size
          clear hx3 hcr hlr HIT
          have HFLC := Lib.hid (FloorCount_any (a : Int) b x3)
          rw [HFC.out] at HFLC
          obtain ⟨cz, HCZ⟩ : ∃ cz, Hid (countTreesZ a b = cz) := ⟨_, rfl⟩
          rw [HCZ.out] at HFLC
          go_wp2_with fail
          refine HFLC.out.mono ?_
          rintro e x4 ⟨rfl, hx4⟩
          have HBX4 := Lib.hid (HBX3.out.trans (hx4.mono HBX3.out.size))
          have HF4 := Lib.hid ((HF3.out.below hx4).more hx4.size)
          have hcr4 : x4.cell? ⟨pr, 0, none⟩ = some (.slice Af (floorZ a b).length kf) := (hx4.cell (p := ⟨pr, 0, none⟩) hlr3).trans hcr3
          have hlr4 : pr < x4.heap.size := Nat.lt_of_lt_of_le hlr3 hx4.size
          clear hx4 hcr3 hlr3 HFLC
          have HCT := Lib.hid (specCountTrees_any (a : Int) b x4)
          rw [HCZ.out] at HCT
          go_wp2_with fail
          refine HCT.out.mono ?_
          rintro e x5 ⟨rfl, hx5⟩
          have HBX5 := Lib.hid (HBX4.out.trans (hx5.mono HBX4.out.size))
          have HF5 := Lib.hid ((HF4.out.below hx5).more hx5.size)
          have hcr5 : x5.cell? ⟨pr, 0, none⟩ = some (.slice Af (floorZ a b).length kf) := (hx5.cell (p := ⟨pr, 0, none⟩) hlr4).trans hcr4
          clear hx5 hcr4 HCT
          have hczq : (cz == cz) = true := by simp
          have HCL := Lib.hid (CountCells_yes _ (floorZ a b) _ x5 HF5.out (Nat.le_refl _) HREG.out)
          obtain ⟨m, hm⟩ : ∃ m : Int, (2 * (a : Int) - 1) * (2 * (b : Int) - 1) = m := ⟨_, rfl⟩
          have hmb : 0 ≤ m ∧ m ≤ 49 := by
            rw [← hm]
            exact ⟨Int.mul_nonneg (by omega) (by omega), Int.le_trans (Int.mul_le_mul (show 2 * (a : Int) - 1 ≤ 7 by omega) (show 2 * (b : Int) - 1 ≤ 7 by omega) (by omega) (by omega)) (by decide)⟩
          rw [HCC.out, hm] at HCL
          have hmq : (m - 1 == m - 1) = true := by simp
          go_wp2_with fail
          refine HCL.out.mono ?_
          rintro e x6 ⟨rfl, hx6⟩
          have HBX6 := Lib.hid (HBX5.out.trans (hx6.mono HBX5.out.size))
          go_wp2_with fail
          try simp only [hm]
          go_ret
          exact ⟨rfl, HBX6.out⟩
end Go.Proofs.Ytehnbalbpfmijaa
