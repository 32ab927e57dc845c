/- What the claim's walk rests on: parts SortS, FaultsS, MovS. -/
import Derived.Test.YtehnbalbpfmijaaSortIKCFx
import Derived.Test.YtehnbalbpfmijaaKCFx7
import Derived.Test.YtehnbalbpfmijaaKCFx5
import Derived.Test.YtehnbalbpfmijaaKCFx9
import Derived.Test.YtehnbalbpfmijaaKCFx10
namespace Go.Proofs.Ytehnbalbpfmijaa
open Go.RowKit
set_option linter.unusedVariables false

theorem addOff (g a n : Nat) : (⟨g, a, none⟩ : Addr).add n = ⟨g, a + n, none⟩ := by unfold Addr.add; split <;> simp_all
section
variable {α : Type} {E : El α}
theorem RdF.take {w : World} {B c : Nat} {A : Option Addr} {xs : List α} (h : RdF E w B (.slice A xs.length c) xs) {j : Nat} (hj : j ≤ xs.length) : RdF E w B (.slice A j c) (xs.take j) := by
  obtain ⟨A', c', hv, h1, h2, h3⟩ := h
  obtain ⟨rfl, rfl⟩ : A = A' ∧ c = c' := by simp at hv; exact hv
  have hl : (xs.take j).length = j := by simp; omega
  refine ⟨A, c, by rw [hl], by omega, h2, fun i x hx => h3 i x ?_⟩
  rw [List.getElem?_take] at hx
  split at hx
  · exact hx
  · simp at hx
theorem RdF.drop {w : World} {B c g : Nat} {xs : List α} (h : RdF E w B (.slice (some ⟨g, 0, none⟩) xs.length c) xs) {j : Nat} (hj : j ≤ xs.length) : RdF E w B (.slice (if c = j then some ⟨g, 0, none⟩ else some ⟨g, j * E.s, none⟩) (xs.length - j) (c - j)) (xs.drop j) := by
  obtain ⟨A', c', hv, h1, h2, h3⟩ := h
  obtain ⟨rfl, rfl⟩ : some (⟨g, 0, none⟩ : Addr) = A' ∧ c = c' := by simp at hv; exact ⟨hv.1, hv.2⟩
  have hl : (xs.drop j).length = xs.length - j := by simp
  refine ⟨_, c - j, by rw [hl], by omega, by omega, fun i x hx => ?_⟩
  have hi := (List.getElem?_eq_some_iff.1 hx).1
  rw [hl] at hi
  rw [List.getElem?_drop] at hx
  obtain ⟨ad, e, hb, hc⟩ := h3 (j + i) x hx
  obtain rfl := Option.some.inj e
  refine ⟨⟨g, j * E.s, none⟩, by rw [if_neg (by omega)], hb, fun q u hu => ?_⟩
  have := hc q u hu
  rw [addOff] at this
  rw [addOff]
  rw [show 0 + ((j + i) * E.s + q) = j * E.s + (i * E.s + q) by rw [Nat.add_mul]; omega] at this
  exact this
theorem RdF.void {w : World} {B c n : Nat} {A : Option Addr} (hn : n = 0) (hc : c ≤ maxLen) : RdF E w B (.slice A n c) ([] : List α) := ⟨A, c, by rw [hn]; rfl, Nat.zero_le _, hc, fun j x hx => by simp at hx⟩
end
/-- Two elements of rows, in a world that grows. -/
abbrev TwoE (V w' : World) (p : Addr) (x y : Int) (d : Bool) (q : Addr) (x' y' : Int) (d' : Bool) : Prop := w'.cell? p = some (.int .i64 x) ∧ w'.cell? ⟨p.block, p.off + 1, none⟩ = some (.int .i64 y) ∧ w'.cell? ⟨p.block, p.off + 2, none⟩ = some (.bool d) ∧
  w'.cell? q = some (.int .i64 x') ∧ w'.cell? ⟨q.block, q.off + 1, none⟩ = some (.int .i64 y') ∧ w'.cell? ⟨q.block, q.off + 2, none⟩ = some (.bool d') ∧ V.heap.size ≤ w'.heap.size ∧ Below V.heap.size V w'
theorem TwoE.keep {V W0 w1 : World} {p : Addr} {x y : Int} {d : Bool} {q : Addr} {x' y' : Int} {d' : Bool} (hb : Below W0.heap.size W0 w1) (ha : p.block < V.heap.size) (hp : q.block < V.heap.size) (h : TwoE V W0 p x y d q x' y' d') : TwoE V w1 p x y d q x' y' d' := by
  obtain ⟨h1, h2, h3, h4, h5, h6, h7, h8⟩ := h
  exact ⟨(hb.cell (by omega)).trans h1, (hb.cell (by simp; omega)).trans h2, (hb.cell (by simp; omega)).trans h3, (hb.cell (by omega)).trans h4, (hb.cell (by simp; omega)).trans h5, (hb.cell (by simp; omega)).trans h6, Nat.le_trans h7 hb.size, h8.trans (hb.mono h7)⟩
theorem TwoE.drew {V W0 : World} {p : Addr} {x y : Int} {d : Bool} {q : Addr} {x' y' : Int} {d' : Bool} (h : TwoE V W0 p x y d q x' y' d') : TwoE V W0.drew p x y d q x' y' d' := ⟨h.1, h.2.1, h.2.2.1, h.2.2.2.1, h.2.2.2.2.1, h.2.2.2.2.2.1, h.2.2.2.2.2.2.1, h.2.2.2.2.2.2.2.drew⟩

set_option maxRecDepth 100000 in
set_option maxHeartbeats 4000000 in
theorem specSortDominoes_any (v : Value) (ls : List Lk) (B : Nat) (w : World) (h : RdF elDomino w B v ls) (hB : B ≤ w.heap.size) :
    Calls Try.prog 28 #[v] w fun e w' => ∃ u, e = .returned u ∧ OwnF elDomino w' w.heap.size u (sortI ls ls.length) ∧ Below w.heap.size w w' := by
  rw [(sort_same ls ls.length).1]
  obtain ⟨A, c, rfl, g1, g2, G3⟩ := RdT.of (E := elDomino) rfl (fun _ => rfl) h
  unfold maxLen at g2
  clear h
  have HA0 : Hid (Acc elDomino w w.heap.size (w.alloc (.cells #[] 46)) (.slice (some ⟨w.heap.size, 0, none⟩) 0 0) []) := Acc.start w
  have HSS := Lib.hid (sort_same ls)
  have HSI : Hid (∀ k, sortS ls (k + 1) = if domL (dAt ls k) then insS (dAt ls k) (sortS ls k) else sortS ls k) := fun k => rfl
  have HS0 : Hid (sortS ls 0 = []) := rfl
  obtain ⟨st, HST⟩ : ∃ st, Hid (st = sortS ls) := ⟨_, rfl⟩
  rw [← HST.out] at HSI HS0 ⊢
  have HSR : Hid (∀ k, (st k).length ≤ 128) := fun k => by rw [HST.out, ← (HSS.out k).1]; exact (HSS.out k).2.short
  clear HST HSS
  go_enter Try.func28, Try.ntmps28
  go_wp2_with fail
  go_loopw [3, 4] (fun o i wr => ∃ (k g c2 : Nat), k ≤ ls.length ∧ i = .int .i64 k ∧ o = .slice (some ⟨g, 0, none⟩) (st k).length c2 ∧ Hid (Acc elDomino w w.heap.size wr (.slice (some ⟨g, 0, none⟩) (st k).length c2) (st k))) (fun _ i _ => ls.length - (intOf i).toNat)
  case atStart => exact ⟨0, _, _, Nat.zero_le _, rfl, by rw [HS0.out]; rfl, by rw [HS0.out]; exact HA0⟩
  case round =>
    obtain ⟨k, g, ca, hk, rfl, rfl, HA⟩ := hrel
    by_cases hlt : k < ls.length
    · have ht : decide ((k : Int) < (ls.length : Int)) = true := by simp only [decide_eq_true_eq]; omega
      obtain ⟨ad, rfl, hbl, hx, hy, hz⟩ := G3.out k hlt
      have hbl2 : (ad.add (k * 3)).block < w.heap.size := by rw [addBlock]; omega
      have hbw := HA.out.2.1
      have hx' := (hbw.cell (p := ad.add (k * 3)) hbl2).trans hx
      have hy' := (hbw.cell (p := ⟨(ad.add (k * 3)).block, (ad.add (k * 3)).off + 1, none⟩) hbl2).trans hy
      have hz' := (hbw.cell (p := ⟨(ad.add (k * 3)).block, (ad.add (k * 3)).off + 2, none⟩) hbl2).trans hz
      have HNX := Lib.hid (HSI.out k)
      have hshort := HSR.out k
      have HDA : Hid (dAt ls k = (lx ls k, ly ls k, ld ls k)) := rfl
      rw [HDA.out] at HNX
      have hk0 : (0 : Int) ≤ (k : Int) := by omega
      have hk1 : (k : Int) < (ls.length : Int) := by omega
      generalize lx ls k = x at *
      generalize ly ls k = y at *
      generalize ld ls k = d at *
      obtain ⟨ys, HYQ⟩ : ∃ ys, Hid (st k = ys) := ⟨_, rfl⟩
      rw [HYQ.out] at HA HNX hshort ⊢
      have hcap : ys.length ≤ ca ∧ ca ≤ maxLen := by
        obtain ⟨A9, c9, hv9, q1, q2, _⟩ := HA.out.1.rd okDomino
        simp at hv9
        omega
      obtain ⟨q1, q2⟩ := hcap
      unfold maxLen at q2
      have HXW : Hid (Three wr (ad.add (k * 3)) x y d) := ⟨hx', hy', hz'⟩
      have HADB := Lib.hid hbl2
      clear hx hy hz hbw HDA HYQ hbl2
      go_wp2_with fail
      refine (specDominoOk_any x y d _).mono ?_
      rintro e w1 ⟨rfl, hb1⟩
      have HA3 := Lib.hid (HA.out.below hb1)
      have hsz := HA.out.2.1.size
      have had : (ad.add (k * 3)).block < wr.heap.size := Nat.lt_of_lt_of_le HADB.out hsz
      have HX1 : Hid (Three w1 (ad.add (k * 3)) x y d) := ⟨(hb1.cell (p := ad.add (k * 3)) had).trans hx', (hb1.cell (p := ⟨(ad.add (k * 3)).block, (ad.add (k * 3)).off + 1, none⟩) had).trans hy', (hb1.cell (p := ⟨(ad.add (k * 3)).block, (ad.add (k * 3)).off + 2, none⟩) had).trans hz'⟩
      have HAD1 : Hid ((ad.add (k * 3)).block < w1.heap.size) := Nat.lt_of_lt_of_le had hb1.size
      clear hb1 hsz had hx' hy' hz' HXW
      obtain ⟨f1, f2, f3⟩ := HX1.out
      cases hd : domB x y d
      · have HE : Hid (st (k + 1) = ys) := by unfold Hid; rw [HNX.out, if_neg (by simp [domL, hd])]
        clear HNX hd
        go_wp2_with fail
        go_roundw
        case rel => exact ⟨k + 1, g, ca, by omega, by go_num, by rw [HE.out], by rw [HE.out]; exact HA3⟩
        case measure => simp [intOf]; omega
      · have HE : Hid (st (k + 1) = if decide (upK ys (x, y, d) ys.length 0 < ys.length) && (dAt ys (upK ys (x, y, d) ys.length 0) == (x, y, d)) then ys else ys.take (upK ys (x, y, d) ys.length 0) ++ [(x, y, d)] ++ ys.drop (upK ys (x, y, d) ys.length 0)) := by unfold Hid; rw [HNX.out, if_pos (by simp [domL, hd])]; rfl
        obtain ⟨q, HQ⟩ : ∃ q, Hid (upK ys (x, y, d) ys.length 0 = q) := ⟨_, rfl⟩
        rw [HQ.out] at HE
        clear HNX hd
        go_wp2_with fail
        go_loopw [5] (fun s wr2 => ∃ j : Nat, j ≤ ys.length ∧ s = .int .i64 j ∧ Hid (upK ys (x, y, d) (ys.length - j) j = q) ∧ Hid (Below w1.heap.size w1 wr2)) (fun s _ => ys.length - (intOf s).toNat)
        case atStart => exact ⟨0, Nat.zero_le _, rfl, HQ, Below.refl _ _⟩
        case round =>
          obtain ⟨j, hj, rfl, HJ, HB⟩ := hrel
          have HA4 := Lib.hid (HA3.out.below HB.out)
          have HX2 : Hid (Three wr (ad.add (k * 3)) x y d) := ⟨(HB.out.cell (p := ad.add (k * 3)) HAD1.out).trans HX1.out.1, (HB.out.cell (p := ⟨(ad.add (k * 3)).block, (ad.add (k * 3)).off + 1, none⟩) HAD1.out).trans HX1.out.2.1, (HB.out.cell (p := ⟨(ad.add (k * 3)).block, (ad.add (k * 3)).off + 2, none⟩) HAD1.out).trans HX1.out.2.2⟩
          have HAD2 : Hid ((ad.add (k * 3)).block < wr.heap.size) := Nat.lt_of_lt_of_le HAD1.out HB.out.size
          clear f1 f2 f3
          obtain ⟨e1, e2, e3⟩ := HX2.out
          have hj0 : (0 : Int) ≤ (j : Int) := by omega
          by_cases hjl : j < ys.length
          · have htj : decide (j < ys.length) = true := by simp only [decide_eq_true_eq]; omega
            have hj1 : (j : Int) < (ys.length : Int) := by omega
            obtain ⟨c0, c1, c2, _⟩ := triStore okDomino rfl (fun _ => rfl) HA4.out.1 hjl
            have HDM : Hid (dAt ys j = (lx ys j, ly ys j, ld ys j)) := rfl
            have HJ2 : Hid ((if domLt (lx ys j, ly ys j, ld ys j) (x, y, d) then upK ys (x, y, d) (ys.length - (j + 1)) (j + 1) else j) = q) := by
              unfold Hid; rw [← HJ.out, show ys.length - j = (ys.length - (j + 1)) + 1 by omega, upK, htj, HDM.out]; rfl
            have hgl : g < wr.heap.size := (HA4.out.1.lt g rfl).2
            have HGL := Lib.hid hgl
            generalize lx ys j = x2 at *
            generalize ly ys j = y2 at *
            generalize ld ys j = d2 at *
            have HS0 : Hid (TwoE wr wr (ad.add (k * 3)) x y d ⟨g, j * 3, none⟩ x2 y2 d2) := ⟨e1, e2, e3, c0, c1, c2, Nat.le_refl _, Below.refl _ _⟩
            clear hgl
            go_wp2_with fail
            go_region_held3 (fun w' => TwoE wr w' (ad.add (k * 3)) x y d ⟨g, j * 3, none⟩ x2 y2 d2)
              (first
                | exact HS0.out.drew
                | exact TwoE.keep hb1 HAD2.out HGL.out (by assumption))
              (first
                | (go_at_call 83; refine (specBefore_any x2 y2 d2 x y d _).mono ?_; rintro e w3 ⟨rfl, hb1⟩))
            have HP3 := Lib.hid (show TwoE wr _ (ad.add (k * 3)) x y d ⟨g, j * 3, none⟩ x2 y2 d2 from by assumption)
            clear e1 e2 e3 c0 c1 c2
            obtain ⟨e1, e2, e3, c0, c1, c2, _, hb3⟩ := HP3.out
            have HB3 := Lib.hid hb3
            clear hb3
            cases hlt2 : domLt (x2, y2, d2) (x, y, d)
            · have HQJ : Hid (q = j) := by unfold Hid; rw [← HJ2.out, if_neg (by simp [hlt2])]
              clear HJ2 hlt2
              by_cases heq : (x2, y2, d2) = (x, y, d)
              · have HE1 : Hid (st (k + 1) = ys) := by
                  unfold Hid; rw [HE.out, HQJ.out, if_pos]
                  rw [HDM.out, heq, htj]; simp
                simp only [Prod.mk.injEq] at heq
                obtain ⟨rfl, rfl, rfl⟩ := heq
                go_wp2_with fail
                go_quiet (fail)
                have HA9 := Lib.hid (HA4.out.below (HB3.out.trans (Drawn.below ⟨nq, rfl⟩ _)))
                go_wp2_with fail
                go_roundw
                case rel => exact ⟨k + 1, g, ca, by omega, by go_num, by rw [HE1.out], by rw [HE1.out]; exact HA9⟩
                case measure => simp [intOf]; omega
              · have HE0 : Hid (st (k + 1) = ys.take j ++ [(x, y, d)] ++ ys.drop j) := by
                  unfold Hid; rw [HE.out, HQJ.out, if_neg]
                  rw [HDM.out]
                  simpa [hjl] using heq
                have hsq : ∀ W : World, Sem.run Try.prog (binOp .eql 46 (.agg #[.int .i64 x2, .int .i64 y2, .bool d2]) (.agg #[.int .i64 x, .int .i64 y, .bool d])) W = .ok (.bool false) W := fun W => by
                  by_cases h1 : x2 = x
                  · by_cases h2 : y2 = y
                    · have h3 : ¬ d2 = d := fun h => heq (by rw [h1, h2, h])
                      go_simp
                    · go_simp
                  · go_simp
                clear heq HE
                go_wp2_with fail
                go_quiet (fail)
                clear hsq
                obtain ⟨W6, HW6⟩ : ∃ W6, Hid (W6 = World.drewN w3 nq) := ⟨_, rfl⟩
                rw [← HW6.out]
                have HBW : Hid (Below wr.heap.size wr W6) := by unfold Hid; rw [HW6.out]; exact HB3.out.trans (Drawn.below ⟨_, rfl⟩ _)
                clear c0 c1 c2
                have hcj : ¬ ca = j := by omega
                have HA6 := Lib.hid (HA4.out.below HBW.out)
                have hs6 := HBW.out.size
                have HX6 : Hid (Three W6 (ad.add (k * 3)) x y d) := ⟨(HBW.out.cell (p := ad.add (k * 3)) HAD2.out).trans HX2.out.1, (HBW.out.cell (p := ⟨(ad.add (k * 3)).block, (ad.add (k * 3)).off + 1, none⟩) HAD2.out).trans HX2.out.2.1, (HBW.out.cell (p := ⟨(ad.add (k * 3)).block, (ad.add (k * 3)).off + 2, none⟩) HAD2.out).trans HX2.out.2.2⟩
                have HAD6 : Hid ((ad.add (k * 3)).block < W6.heap.size) := Nat.lt_of_lt_of_le HAD2.out hs6
                have HR6 := Lib.hid (HA6.out.1.rd okDomino)
                have HN0 : Hid (Acc elDomino W6 W6.heap.size (W6.alloc (.cells #[] 46)) (.slice (some ⟨W6.heap.size, 0, none⟩) 0 0) []) := Acc.start W6
                have HR7 : Hid (RdF elDomino (W6.alloc (.cells #[] 46)) W6.heap.size (.slice (some ⟨g, 0, none⟩) j ca) (ys.take j)) := (HR6.out.below ((Below.refl _ _).alloc (Nat.le_refl _) _)).take hj
                have hjle : (j : Int) ≤ (ys.length : Int) := by omega
                have hjc : (j : Int) ≤ (ca : Int) := by omega
                clear e1 e2 e3 hs6
                go_wp2_with (first
                  | (at_builtin; refine wpList_pushSrcF okDomino rfl _ _ rfl HN0.out rfl (ys.take j) _ _ HR7.out rfl (by simp; omega) ?_; intro v8 w8 HN1 HG8; rw [List.nil_append] at HN1; obtain ⟨A8, c8, hv8, _⟩ := HN1.out.1.rd okDomino; rw [show (ys.take j).length = j by simp; omega] at hv8; subst hv8; have hb8 := HN1.out.2.1; have i1 := (hb8.cell (p := ad.add (k * 3)) HAD6.out).trans HX6.out.1; have i2 := (hb8.cell (p := ⟨(ad.add (k * 3)).block, (ad.add (k * 3)).off + 1, none⟩) HAD6.out).trans HX6.out.2.1; have i3 := (hb8.cell (p := ⟨(ad.add (k * 3)).block, (ad.add (k * 3)).off + 2, none⟩) HAD6.out).trans HX6.out.2.2; clear hb8)
                  | (at_builtin; refine wpList_push okDomino rfl _ _ rfl HN1.out rfl (x, y, d) _ rfl _ rfl rfl (by simp; omega) ?_; intro v9 w9 HN2 HG9; clear i1 i2 i3; obtain ⟨A9, c9, hv9, _⟩ := HN2.out.1.rd okDomino; rw [show (ys.take j ++ [((x, y, d) : Lk)]).length = j + 1 by simp; omega] at hv9; subst hv9; have h9 := (HR6.out.below HN2.out.2.1).drop hj; rw [if_neg hcj] at h9; have HR9 := Lib.hid h9; clear h9)
                  | (at_builtin; refine wpList_pushSrcF okDomino rfl _ _ rfl HN2.out rfl (ys.drop j) _ _ HR9.out rfl (by simp; omega) ?_; intro v10 w10 HN3 HG10; rw [← HE0.out] at HN3; have hp3 : 0 < (st (k + 1)).length := (by rw [HE0.out]; simp only [List.length_append, List.length_singleton]; omega); obtain ⟨g10, c10, hv10, _, _⟩ := World.ownsRow.form HN3.out.1 hp3; subst hv10))
                all_goals
                  have hmono := HA6.out.2.1.size
                  go_roundw
                  case rel => exact ⟨k + 1, g10, c10, by omega, by go_num, rfl, ⟨HN3.out.1.mono hmono, HA6.out.2.1.trans (HN3.out.2.1.mono hmono), Nat.le_refl _, Nat.le_trans hmono HN3.out.2.1.size⟩⟩
                  case measure => simp [intOf]; omega
            · have HJ3 : Hid (upK ys (x, y, d) (ys.length - (j + 1)) (j + 1) = q) := by unfold Hid; rw [← HJ2.out, if_pos hlt2]
              have HB4 := Lib.hid (HB.out.trans (HB3.out.mono HB.out.size))
              clear HJ2
              go_wp2_with fail
              go_roundw
              case rel => exact ⟨j + 1, by omega, by go_num, HJ3, HB4⟩
              case measure => simp [intOf]; omega
          · have htj : decide (j < ys.length) = false := by simp only [decide_eq_false_iff_not]; omega
            have HQJ : Hid (q = j) := by unfold Hid; rw [← HJ.out, show ys.length - j = 0 by omega]; rfl
            have HE0 : Hid (st (k + 1) = ys.take j ++ [(x, y, d)] ++ ys.drop j) := by
              unfold Hid; rw [HE.out, HQJ.out, htj]; simp
            go_wp2_with fail
            go_quiet (fail)
            obtain ⟨W5, HW5⟩ : ∃ W5, Hid (W5 = wr.drewN nq) := ⟨_, rfl⟩
            rw [← HW5.out]
            go_wp2_with fail
            go_quiet (fail)
            obtain ⟨W6, HW6⟩ : ∃ W6, Hid (W6 = W5.drewN nq) := ⟨_, rfl⟩
            rw [← HW6.out]
            have HBW : Hid (Below wr.heap.size wr W6) := by unfold Hid; rw [HW6.out, HW5.out]; exact (Drawn.below ⟨_, rfl⟩ _).trans ((Drawn.below ⟨_, rfl⟩ _))
            have HE9 : Hid (st (k + 1) = ys.take j ++ [(x, y, d)]) := by unfold Hid; rw [HE0.out, List.drop_of_length_le (by omega)]; simp
            have HA6 := Lib.hid (HA4.out.below HBW.out)
            have hs6 := HBW.out.size
            have HX6 : Hid (Three W6 (ad.add (k * 3)) x y d) := ⟨(HBW.out.cell (p := ad.add (k * 3)) HAD2.out).trans HX2.out.1, (HBW.out.cell (p := ⟨(ad.add (k * 3)).block, (ad.add (k * 3)).off + 1, none⟩) HAD2.out).trans HX2.out.2.1, (HBW.out.cell (p := ⟨(ad.add (k * 3)).block, (ad.add (k * 3)).off + 2, none⟩) HAD2.out).trans HX2.out.2.2⟩
            have HAD6 : Hid ((ad.add (k * 3)).block < W6.heap.size) := Nat.lt_of_lt_of_le HAD2.out hs6
            have HR6 := Lib.hid (HA6.out.1.rd okDomino)
            have HN0 : Hid (Acc elDomino W6 W6.heap.size (W6.alloc (.cells #[] 46)) (.slice (some ⟨W6.heap.size, 0, none⟩) 0 0) []) := Acc.start W6
            have HR7 : Hid (RdF elDomino (W6.alloc (.cells #[] 46)) W6.heap.size (.slice (some ⟨g, 0, none⟩) j ca) (ys.take j)) := (HR6.out.below ((Below.refl _ _).alloc (Nat.le_refl _) _)).take hj
            have hjle : (j : Int) ≤ (ys.length : Int) := by omega
            have hjc : (j : Int) ≤ (ca : Int) := by omega
            clear e1 e2 e3 hs6
            go_wp2_with (first
              | (at_builtin; refine wpList_pushSrcF okDomino rfl _ _ rfl HN0.out rfl (ys.take j) _ _ HR7.out rfl (by simp; omega) ?_; intro v8 w8 HN1 HG8; rw [List.nil_append] at HN1; obtain ⟨A8, c8, hv8, _⟩ := HN1.out.1.rd okDomino; rw [show (ys.take j).length = j by simp; omega] at hv8; subst hv8; have hb8 := HN1.out.2.1; have i1 := (hb8.cell (p := ad.add (k * 3)) HAD6.out).trans HX6.out.1; have i2 := (hb8.cell (p := ⟨(ad.add (k * 3)).block, (ad.add (k * 3)).off + 1, none⟩) HAD6.out).trans HX6.out.2.1; have i3 := (hb8.cell (p := ⟨(ad.add (k * 3)).block, (ad.add (k * 3)).off + 2, none⟩) HAD6.out).trans HX6.out.2.2; clear hb8)
              | (at_builtin; refine wpList_push okDomino rfl _ _ rfl HN1.out rfl (x, y, d) _ rfl _ rfl rfl (by simp; omega) ?_; intro v9 w9 HN2 HG9; clear i1 i2 i3; obtain ⟨A9, c9, hv9, _⟩ := HN2.out.1.rd okDomino; rw [show (ys.take j ++ [((x, y, d) : Lk)]).length = j + 1 by simp; omega] at hv9; subst hv9)
              | (at_builtin; refine wpList_pushSrcF okDomino rfl _ _ rfl HN2.out rfl [] 0 _ ?hr9 rfl (by simp; omega) ?_; (case hr9 => exact RdF.void (by omega) (by unfold maxLen; omega)); intro v10 w10 HN3 HG10; rw [List.append_nil, ← HE9.out] at HN3; have hp3 : 0 < (st (k + 1)).length := (by rw [HE9.out]; simp only [List.length_append, List.length_singleton]; omega); obtain ⟨g10, c10, hv10, _, _⟩ := World.ownsRow.form HN3.out.1 hp3; subst hv10))
            all_goals
              have hmono := HA6.out.2.1.size
              go_roundw
              case rel => exact ⟨k + 1, g10, c10, by omega, by go_num, rfl, ⟨HN3.out.1.mono hmono, HA6.out.2.1.trans (HN3.out.2.1.mono hmono), Nat.le_refl _, Nat.le_trans hmono HN3.out.2.1.size⟩⟩
              case measure => simp [intOf]; omega
    · obtain rfl : k = ls.length := by omega
      have ht : decide ((ls.length : Int) < (ls.length : Int)) = false := by simp
      go_wp2_with fail
      go_ret
      exact ⟨_, rfl, HA.out.1, HA.out.2.1⟩
end Go.Proofs.Ytehnbalbpfmijaa

namespace Go.Proofs.Ytehnbalbpfmijaa
open Go.RowKit
set_option linter.unusedVariables false

end Go.Proofs.Ytehnbalbpfmijaa

namespace Go.Proofs.Ytehnbalbpfmijaa
open Go.RowKit
set_option linter.unusedVariables false

theorem TwoC.of {V : World} {a b : Nat} {x y x2 y2 : Int} {t t' : TypeId} (k1 : V.heap[a]? = some (.cells #[.int .i64 x, .int .i64 y] t (0, 0))) (k2 : V.heap[b]? = some (.cells #[.int .i64 x2, .int .i64 y2] t' (0, 0))) : V.cell? ⟨a, 0, none⟩ = some (.int .i64 x) ∧ V.cell? ⟨a, 1, none⟩ = some (.int .i64 y) ∧ V.cell? ⟨b, 0, none⟩ = some (.int .i64 x2) ∧ V.cell? ⟨b, 1, none⟩ = some (.int .i64 y2) ∧ (∀ o, V.frozen? ⟨a, o, none⟩ = false) ∧ ∀ o, V.frozen? ⟨b, o, none⟩ = false :=
  ⟨by rw [blk_cell k1]; rfl, by rw [blk_cell k1]; rfl, by rw [blk_cell k2]; rfl, by rw [blk_cell k2]; rfl, fun o => blk_free k1, fun o => blk_free k2⟩
set_option maxRecDepth 100000 in
set_option maxHeartbeats 2000000 in
theorem l19Square_any (s : Int) (v : Value) (ls : List Lk) (B : Nat) (w : World) (h : RdF elDomino w B v ls) (hB : B ≤ w.heap.size) :
    Calls Try.prog 66 #[.int .i64 s, v] w fun e w' => e = .returned (.bool (fltB s s ls)) ∧ Below w.heap.size w w' := by
  cases t1 : inB s 1 8
  · have HF : Hid (false = fltB s s ls) := by unfold Hid fltB; simp [t1]
    go_enter Try.func66, Try.ntmps66
    go_wp2_with fail
    refine (l01In_any _ _ _ _).mono ?_
    rintro e w' ⟨rfl, rfl⟩
    rw [t1]
    go_wp2_with fail
    go_ret
    exact ⟨ret_bool HF.out, Below.refl _ _⟩
  · have ha := (inB_iff _ _ _).1 t1
    obtain ⟨s, rfl⟩ := Int.eq_ofNat_of_zero_le (show 0 ≤ s by omega)
    have HF : Hid (sTileB (setZ (rectZ s s)) ls = fltB s s ls) := by unfold Hid fltB; simp [t1]
    have HOK := Lib.hid (rectZ_ok s s (by omega) (by omega))
    have HV := Lib.hid h
    clear h
    generalize fltB (s : Int) s ls = r at *
    go_enter Try.func66, Try.ntmps66
    go_wp2_with fail
    refine (l01In_any _ _ _ _).mono ?_
    rintro e w' ⟨rfl, rfl⟩
    rw [t1]
    go_wp2_with fail
    refine (specRectangle_yes s s (by omega) (by omega) _).mono ?_
    rintro e w1 ⟨u1, rfl, hr1, hb1⟩
    have HR1 := Lib.hid hr1
    have HB1 := Lib.hid hb1
    clear hb1 hr1
    go_wp2_with fail
    refine (specIsTiling_yes _ _ _ ls _ _ HR1.out ((HV.out.below (HB1.out.mono hB)).more (Nat.le_trans hB HB1.out.size)) (Nat.le_refl _) HOK.out).mono ?_
    rintro e w2 ⟨rfl, hb2⟩
    rw [HF.out]
    have HB2 := Lib.hid (HB1.out.trans (hb2.mono HB1.out.size))
    go_wp2_with fail
    go_ret
    exact ⟨rfl, HB2.out⟩

set_option maxRecDepth 100000 in
set_option maxHeartbeats 8000000 in
theorem l19Moved_turn (s : Nat) (v : Value) (ls : List Lk) (B : Nat) (w : World) (h : RdF elDomino w B v ls) (hB : B ≤ w.heap.size) (hf : fltB s s ls = true) :
    Calls Try.prog 67 #[.int .i64 (s : Int), v, .int .i64 1, .bool false] w fun e w' => ∃ u, e = .returned u ∧ OwnF elDomino w' w.heap.size u (movZ true s ls) ∧ Below w.heap.size w w' := by
  have HZ : Hid (movZ true s ls = sortI (movTo true s ls ls.length) ls.length) := by unfold Hid movZ; rw [hf]; rfl
  rw [HZ.out]
  obtain ⟨hs1, hs2, ht⟩ := fltB_nat hf
  have hls := tile_short hs2 ht
  have HIN := Lib.hid (fun k (hk : k < ls.length) => tile_in hs2 ht hk)
  have HLEN := Lib.hid (movTo_len true (s : Int) ls)
  have HMS : Hid (∀ k, movTo true (s : Int) ls (k + 1) = movTo true (s : Int) ls k ++ [movL true (s : Int) (dAt ls k)]) := fun k => rfl
  have HM0 : Hid (movTo true (s : Int) ls 0 = []) := rfl
  obtain ⟨mv, HMV0⟩ : ∃ mv, Hid (mv = movTo true (s : Int) ls) := ⟨_, rfl⟩
  rw [← HMV0.out] at HMS HM0 HLEN ⊢
  obtain ⟨A, c, rfl, g1, g2, G3⟩ := RdT.of (E := elDomino) rfl (fun _ => rfl) h
  unfold maxLen at g2
  have HA0 : Hid (Acc elDomino w w.heap.size (w.alloc (.cells #[] 46)) (.slice (some ⟨w.heap.size, 0, none⟩) 0 0) []) := Acc.start w
  clear ht h hf HMV0 HZ
  go_enter Try.func67, Try.ntmps67
  go_wp2_with fail
  go_loopw [9, 10] (fun o i wr => ∃ (k : Nat) (u : Value), k ≤ ls.length ∧ i = .int .i64 (k : Int) ∧ u = o ∧ Hid (Acc elDomino w w.heap.size wr u (mv k))) (fun _ i _ => ls.length - (intOf i).toNat)
  case atStart => exact ⟨0, _, Nat.zero_le _, rfl, rfl, by rw [HM0.out]; exact HA0⟩
  case round =>
    obtain ⟨k, u, hk, rfl, rfl, HA⟩ := hrel
    obtain ⟨A1, ca, hv, q1, q2, _⟩ := HA.out.1.rd okDomino
    have hml := HLEN.out k
    rw [hml] at hv q1
    subst hv
    unfold maxLen at q2
    by_cases hlt : k < ls.length
    · have ht : decide ((k : Int) < (ls.length : Int)) = true := by simp only [decide_eq_true_eq]; omega
      obtain ⟨ad, rfl, hbl, hx, hy, hz⟩ := G3.out k hlt
      have hbl2 : (ad.add (k * 3)).block < w.heap.size := by rw [addBlock]; omega
      have hbw := HA.out.2.1
      have hx' := (hbw.cell (p := ad.add (k * 3)) hbl2).trans hx
      have hy' := (hbw.cell (p := ⟨(ad.add (k * 3)).block, (ad.add (k * 3)).off + 1, none⟩) hbl2).trans hy
      have hz' := (hbw.cell (p := ⟨(ad.add (k * 3)).block, (ad.add (k * 3)).off + 2, none⟩) hbl2).trans hz
      obtain ⟨hd, hxb, hyb, hxb2, hyb2⟩ := HIN.out k hlt
      have hnx := snd_next hd
      have HMK : Hid (mv (k + 1) = mv k ++ [overL (mapC true s (lx ls k) (ly ls k)).1 (mapC true s (lx ls k) (ly ls k)).2 (mapC true s (sndX (lx ls k) (ld ls k)) (sndY (ly ls k) (ld ls k))).1 (mapC true s (sndX (lx ls k) (ld ls k)) (sndY (ly ls k) (ld ls k))).2]) := HMS.out k
      have HOV0 := Lib.hid (fun V => specDominoOver_yes _ _ _ _ (next_mov true hs2 hxb hyb hxb2 hyb2 hnx) V)
      have HEN := Lib.hid (fun V => CellsUnder_yes (lx ls k) (ly ls k) (ld ls k) V hd)
      have hk0 : (0 : Int) ≤ (k : Int) := by omega
      have hk1 : (k : Int) < (ls.length : Int) := by omega
      generalize sndX (lx ls k) (ld ls k) = x2 at *
      generalize sndY (ly ls k) (ld ls k) = y2 at *
      generalize lx ls k = x at *
      generalize ly ls k = y at *
      generalize ld ls k = d at *
      obtain ⟨nx, ny, nd, HON⟩ : ∃ nx ny nd, Hid (overL (mapC true s x y).1 (mapC true s x y).2 (mapC true s x2 y2).1 (mapC true s x2 y2).2 = (nx, ny, nd)) := ⟨_, _, _, rfl⟩
      have HMV : Hid (mv (k + 1) = mv k ++ [(nx, ny, nd)]) := by unfold Hid; rw [HMK.out, HON.out]
      obtain ⟨mx, my, HMA⟩ : ∃ mx my, Hid (mapC true s x y = (mx, my)) := ⟨_, _, rfl⟩
      obtain ⟨mx2, my2, HMB⟩ : ∃ mx2 my2, Hid (mapC true s x2 y2 = (mx2, my2)) := ⟨_, _, rfl⟩
      have HOV : Hid (∀ V, Calls Try.prog 133 #[spotV mx my, spotV mx2 my2] V fun e w' => e = .returned (.tuple #[triV nx ny nd, .bool true]) ∧ Below V.heap.size V w') := by
        have h9 := HOV0.out
        rw [HON.out, HMA.out, HMB.out] at h9
        exact h9
      have hm32 : (mv k).length ≤ 32 := by rw [hml]; omega
      generalize mv k = ys at *
      have hc1 : IntKind.i64.wrap ((s : Int) - 1) = (s : Int) - 1 := IntWalk.i64_in _ (by omega)
      have hc2 : IntKind.i64.wrap ((s : Int) - 1 - y) = mx := by have h9 := HMA.out; unfold mapC at h9; simp at h9; rw [IntWalk.i64_in _ (by omega)]; omega
      have hc3 : IntKind.i64.wrap ((s : Int) - 1 - y2) = mx2 := by have h9 := HMB.out; unfold mapC at h9; simp at h9; rw [IntWalk.i64_in _ (by omega)]; omega
      have hc4 : my = x := by have h9 := HMA.out; unfold mapC at h9; simp at h9; omega
      have hc5 : my2 = x2 := by have h9 := HMB.out; unfold mapC at h9; simp at h9; omega
      obtain rfl := hc4
      obtain rfl := hc5
      clear hx hy hz hbw HMK HOV0 HON hnx hd hml HMA HMB
      go_wp2_with fail
      refine (HEN.out _).mono ?_
      rintro e w3 ⟨rfl, hb3⟩
      have HA3 := Lib.hid (HA.out.below hb3)
      clear hb3 hx' hy' hz'
      go_upto_region 6 with (fail)
      obtain ⟨V, hV, k1, k2, hbV⟩ := two_alloc w3 (.cells #[.int .i64 my, .int .i64 y] 44) (.cells #[.int .i64 my2, .int .i64 y2] 44)
      rw [← hV]
      obtain ⟨na, hna⟩ : ∃ na, w3.heap.size = na := ⟨_, rfl⟩
      have HNA := Lib.hid hna
      rw [hna] at k1 k2 hbV ⊢
      obtain ⟨f0, f1, f2, f3, f4, f5⟩ := TwoC.of k1 k2
      have HK1 := Lib.hid k1; have HK2 := Lib.hid k2
      have HBV : Hid (Below na w3 V) := hbV
      clear hV k1 k2 hbV hna
      have hw5 : (1 : Int) - 1 = 0 := rfl
      go_wp2_with fail
      go_loopw [13] (fun i wr2 => ∃ j : Nat, j ≤ 1 ∧ i = .int .i64 (j : Int) ∧ Hid (wr2.heap[na]? = some (.cells #[.int .i64 (if j = 0 then my else mx), .int .i64 (if j = 0 then y else my)] 44 (0, 0))) ∧ Hid (wr2.heap[na + 1]? = some (.cells #[.int .i64 (if j = 0 then my2 else mx2), .int .i64 (if j = 0 then y2 else my2)] 44 (0, 0))) ∧ Hid (Below na w3 wr2)) (fun i _ => 1 - (intOf i).toNat)
      case atStart => exact ⟨0, by omega, rfl, HK1, HK2, HBV⟩
      case round =>
        obtain ⟨j, hj, rfl, HJ1, HJ2, HJB⟩ := hrel
        clear f0 f1 f2 f3 f4 f5
        obtain ⟨f0, f1, f2, f3, f4, f5⟩ := TwoC.of HJ1.out HJ2.out
        by_cases hj0 : j = 0
        · subst hj0
          have HQ1 := Lib.hid (blk_setCell (k := 1) (blk_setCell (k := 0) HJ1.out (.int .i64 mx)) (.int .i64 my))
          simp only [if_true] at f0 f1 f2 f3
          go_wp2_with fail
          go_roundw
          case rel =>
            refine ⟨1, by omega, rfl, ?_, ?_, ?_⟩
            · exact (Below.heap_setCell _ _ _ _ (by simp)).trans ((Below.heap_setCell _ _ _ _ (by simp)).trans (blk_setCell (k := 1) (blk_setCell (k := 0) HJ1.out (.int .i64 mx)) (.int .i64 my)))
            · exact blk_setCell (k := 1) (blk_setCell (k := 0) ((Below.heap_setCell _ _ _ _ (by simp)).trans ((Below.heap_setCell _ _ _ _ (by simp)).trans HJ2.out)) (.int .i64 mx2)) (.int .i64 my2)
            · exact ((((HJB.out.setCell (p := ⟨na, 0, none⟩) (Nat.le_refl _) _).setCell (p := ⟨na, 1, none⟩) (Nat.le_refl _) _).setCell (p := ⟨na + 1, 0, none⟩) (Nat.le_succ _) _).setCell (p := ⟨na + 1, 1, none⟩) (Nat.le_succ _) _)
          case measure => simp [intOf]
        · obtain rfl : j = 1 := by omega
          simp only [Nat.one_ne_zero, if_false] at f0 f1 f2 f3
          have HAJ : Hid (Acc elDomino w w.heap.size wr (.slice A1 k ca) ys) := HA3.out.below (by rw [HNA.out]; exact HJB.out)
          go_wp2_with fail
          refine (HOV.out _).mono ?_
          rintro e w5 ⟨rfl, hb5⟩
          have HA5 := Lib.hid (HAJ.out.below hb5)
          clear f0 f1 f2 f3 f4 f5 hb5
          go_upto_region 15 with (fail)
          obtain ⟨V9, hV9, k9, hb9⟩ := one_alloc w5 (triO nx ny nd 46)
          rw [← hV9]
          have HA9 := Lib.hid (HA5.out.below hb9)
          obtain ⟨g0, g1, g2⟩ := tri_cells k9
          clear hV9 k9 hb9
          go_wp2_with (at_builtin; refine wpList_push okDomino rfl _ _ rfl HA9.out rfl (nx, ny, nd) _ rfl _ rfl rfl (by omega) ?_; intro v10 w10 HA10 HG10)
          go_roundw
          case rel => exact ⟨k + 1, _, by omega, by go_num, rfl, by rw [HMV.out]; exact HA10⟩
          case measure => simp [intOf]; omega
    · obtain rfl : k = ls.length := by omega
      have ht : decide ((ls.length : Int) < (ls.length : Int)) = false := by simp
      have HRD := Lib.hid (HA.out.1.rd okDomino)
      have HML := Lib.hid hml
      clear hml
      have HBA := Lib.hid HA.out.2.1
      go_wp2_with fail
      refine (specSortDominoes_any _ (mv ls.length) _ _ HRD.out (Nat.le_refl _)).mono ?_
      rintro e w9 ⟨u9, rfl, ho9, hb9⟩
      have ho9 : OwnF elDomino w9 wr.heap.size u9 (sortI (mv ls.length) ls.length) := by rw [HML.out] at ho9; exact ho9
      have HO9 := Lib.hid (ho9.mono HBA.out.size)
      have HB9 := Lib.hid (HBA.out.trans (hb9.mono HBA.out.size))
      clear ho9 hb9
      go_wp2_with fail
      go_ret
      exact ⟨_, rfl, HO9.out, HB9.out⟩

set_option maxRecDepth 100000 in
set_option maxHeartbeats 8000000 in
theorem l19Moved_mirror (s : Nat) (v : Value) (ls : List Lk) (B : Nat) (w : World) (h : RdF elDomino w B v ls) (hB : B ≤ w.heap.size) (hf : fltB s s ls = true) :
    Calls Try.prog 67 #[.int .i64 (s : Int), v, .int .i64 0, .bool true] w fun e w' => ∃ u, e = .returned u ∧ OwnF elDomino w' w.heap.size u (movZ false s ls) ∧ Below w.heap.size w w' := by
  have HZ : Hid (movZ false s ls = sortI (movTo false s ls ls.length) ls.length) := by unfold Hid movZ; rw [hf]; rfl
  rw [HZ.out]
  obtain ⟨hs1, hs2, ht⟩ := fltB_nat hf
  have hls := tile_short hs2 ht
  have HIN := Lib.hid (fun k (hk : k < ls.length) => tile_in hs2 ht hk)
  have HLEN := Lib.hid (movTo_len false (s : Int) ls)
  have HMS : Hid (∀ k, movTo false (s : Int) ls (k + 1) = movTo false (s : Int) ls k ++ [movL false (s : Int) (dAt ls k)]) := fun k => rfl
  have HM0 : Hid (movTo false (s : Int) ls 0 = []) := rfl
  obtain ⟨mv, HMV0⟩ : ∃ mv, Hid (mv = movTo false (s : Int) ls) := ⟨_, rfl⟩
  rw [← HMV0.out] at HMS HM0 HLEN ⊢
  obtain ⟨A, c, rfl, g1, g2, G3⟩ := RdT.of (E := elDomino) rfl (fun _ => rfl) h
  unfold maxLen at g2
  have HA0 : Hid (Acc elDomino w w.heap.size (w.alloc (.cells #[] 46)) (.slice (some ⟨w.heap.size, 0, none⟩) 0 0) []) := Acc.start w
  clear ht h hf HMV0 HZ
  go_enter Try.func67, Try.ntmps67
  go_wp2_with fail
  go_loopw [9, 10] (fun o i wr => ∃ (k : Nat) (u : Value), k ≤ ls.length ∧ i = .int .i64 (k : Int) ∧ u = o ∧ Hid (Acc elDomino w w.heap.size wr u (mv k))) (fun _ i _ => ls.length - (intOf i).toNat)
  case atStart => exact ⟨0, _, Nat.zero_le _, rfl, rfl, by rw [HM0.out]; exact HA0⟩
  case round =>
    obtain ⟨k, u, hk, rfl, rfl, HA⟩ := hrel
    obtain ⟨A1, ca, hv, q1, q2, _⟩ := HA.out.1.rd okDomino
    have hml := HLEN.out k
    rw [hml] at hv q1
    subst hv
    unfold maxLen at q2
    by_cases hlt : k < ls.length
    · have ht : decide ((k : Int) < (ls.length : Int)) = true := by simp only [decide_eq_true_eq]; omega
      obtain ⟨ad, rfl, hbl, hx, hy, hz⟩ := G3.out k hlt
      have hbl2 : (ad.add (k * 3)).block < w.heap.size := by rw [addBlock]; omega
      have hbw := HA.out.2.1
      have hx' := (hbw.cell (p := ad.add (k * 3)) hbl2).trans hx
      have hy' := (hbw.cell (p := ⟨(ad.add (k * 3)).block, (ad.add (k * 3)).off + 1, none⟩) hbl2).trans hy
      have hz' := (hbw.cell (p := ⟨(ad.add (k * 3)).block, (ad.add (k * 3)).off + 2, none⟩) hbl2).trans hz
      obtain ⟨hd, hxb, hyb, hxb2, hyb2⟩ := HIN.out k hlt
      have hnx := snd_next hd
      have HMK : Hid (mv (k + 1) = mv k ++ [overL (mapC false s (lx ls k) (ly ls k)).1 (mapC false s (lx ls k) (ly ls k)).2 (mapC false s (sndX (lx ls k) (ld ls k)) (sndY (ly ls k) (ld ls k))).1 (mapC false s (sndX (lx ls k) (ld ls k)) (sndY (ly ls k) (ld ls k))).2]) := HMS.out k
      have HOV0 := Lib.hid (fun V => specDominoOver_yes _ _ _ _ (next_mov false hs2 hxb hyb hxb2 hyb2 hnx) V)
      have HEN := Lib.hid (fun V => CellsUnder_yes (lx ls k) (ly ls k) (ld ls k) V hd)
      have hk0 : (0 : Int) ≤ (k : Int) := by omega
      have hk1 : (k : Int) < (ls.length : Int) := by omega
      generalize sndX (lx ls k) (ld ls k) = x2 at *
      generalize sndY (ly ls k) (ld ls k) = y2 at *
      generalize lx ls k = x at *
      generalize ly ls k = y at *
      generalize ld ls k = d at *
      obtain ⟨nx, ny, nd, HON⟩ : ∃ nx ny nd, Hid (overL (mapC false s x y).1 (mapC false s x y).2 (mapC false s x2 y2).1 (mapC false s x2 y2).2 = (nx, ny, nd)) := ⟨_, _, _, rfl⟩
      have HMV : Hid (mv (k + 1) = mv k ++ [(nx, ny, nd)]) := by unfold Hid; rw [HMK.out, HON.out]
      obtain ⟨mx, my, HMA⟩ : ∃ mx my, Hid (mapC false s x y = (mx, my)) := ⟨_, _, rfl⟩
      obtain ⟨mx2, my2, HMB⟩ : ∃ mx2 my2, Hid (mapC false s x2 y2 = (mx2, my2)) := ⟨_, _, rfl⟩
      have HOV : Hid (∀ V, Calls Try.prog 133 #[spotV mx my, spotV mx2 my2] V fun e w' => e = .returned (.tuple #[triV nx ny nd, .bool true]) ∧ Below V.heap.size V w') := by
        have h9 := HOV0.out
        rw [HON.out, HMA.out, HMB.out] at h9
        exact h9
      have hm32 : (mv k).length ≤ 32 := by rw [hml]; omega
      generalize mv k = ys at *
      have hc1 : IntKind.i64.wrap ((s : Int) - 1) = (s : Int) - 1 := IntWalk.i64_in _ (by omega)
      have hc2 : IntKind.i64.wrap ((s : Int) - 1 - x) = mx := by have h9 := HMA.out; unfold mapC at h9; simp at h9; rw [IntWalk.i64_in _ (by omega)]; omega
      have hc3 : IntKind.i64.wrap ((s : Int) - 1 - x2) = mx2 := by have h9 := HMB.out; unfold mapC at h9; simp at h9; rw [IntWalk.i64_in _ (by omega)]; omega
      have hc4 : my = y := by have h9 := HMA.out; unfold mapC at h9; simp at h9; omega
      have hc5 : my2 = y2 := by have h9 := HMB.out; unfold mapC at h9; simp at h9; omega
      obtain rfl := hc4
      obtain rfl := hc5
      clear hx hy hz hbw HMK HOV0 HON hnx hd hml HMA HMB
      go_wp2_with fail
      refine (HEN.out _).mono ?_
      rintro e w3 ⟨rfl, hb3⟩
      have HA3 := Lib.hid (HA.out.below hb3)
      clear hb3 hx' hy' hz'
      go_upto_region 6 with (fail)
      obtain ⟨V, hV, k1, k2, hbV⟩ := two_alloc w3 (.cells #[.int .i64 x, .int .i64 my] 44) (.cells #[.int .i64 x2, .int .i64 my2] 44)
      rw [← hV]
      obtain ⟨na, hna⟩ : ∃ na, w3.heap.size = na := ⟨_, rfl⟩
      have HNA := Lib.hid hna
      rw [hna] at k1 k2 hbV ⊢
      obtain ⟨f0, f1, f2, f3, f4, f5⟩ := TwoC.of k1 k2
      have HK1 := Lib.hid k1; have HK2 := Lib.hid k2
      have HBV : Hid (Below na w3 V) := hbV
      clear hV k1 k2 hbV hna
      go_wp2_with fail
      obtain ⟨V8, HV8⟩ : ∃ V8, Hid (V8 = (V.setCell ⟨na, 0, none⟩ (.int .i64 mx)).setCell ⟨na + 1, 0, none⟩ (.int .i64 mx2)) := ⟨_, rfl⟩
      rw [← HV8.out]
      have HJ1 : Hid (V8.heap[na]? = some (.cells #[.int .i64 mx, .int .i64 my] 44 (0, 0))) := by unfold Hid; rw [HV8.out]; exact (Below.heap_setCell _ _ _ _ (by simp)).trans (blk_setCell (k := 0) HK1.out (.int .i64 mx))
      have HJ2 : Hid (V8.heap[na + 1]? = some (.cells #[.int .i64 mx2, .int .i64 my2] 44 (0, 0))) := by unfold Hid; rw [HV8.out]; exact blk_setCell (k := 0) ((Below.heap_setCell _ _ _ _ (by simp)).trans HK2.out) (.int .i64 mx2)
      have HJB : Hid (Below na w3 V8) := by unfold Hid; rw [HV8.out]; exact (HBV.out.setCell (p := ⟨na, 0, none⟩) (Nat.le_refl _) _).setCell (p := ⟨na + 1, 0, none⟩) (Nat.le_succ _) _
      clear f0 f1 f2 f3 f4 f5 HV8
      go_loopw [13] (fun i wr2 => i = .int .i64 0 ∧ wr2 = V8) (fun i _ => 0)
      case atStart => exact ⟨rfl, rfl⟩
      case round =>
        obtain ⟨rfl, rfl⟩ := hrel
        obtain ⟨f0, f1, f2, f3, f4, f5⟩ := TwoC.of HJ1.out HJ2.out
        · skip
          have HAJ : Hid (Acc elDomino w w.heap.size wr (.slice A1 k ca) ys) := HA3.out.below (by rw [HNA.out]; exact HJB.out)
          go_wp2_with fail
          refine (HOV.out _).mono ?_
          rintro e w5 ⟨rfl, hb5⟩
          have HA5 := Lib.hid (HAJ.out.below hb5)
          clear f0 f1 f2 f3 f4 f5 hb5
          go_upto_region 15 with (fail)
          obtain ⟨V9, hV9, k9, hb9⟩ := one_alloc w5 (triO nx ny nd 46)
          rw [← hV9]
          have HA9 := Lib.hid (HA5.out.below hb9)
          obtain ⟨g0, g1, g2⟩ := tri_cells k9
          clear hV9 k9 hb9
          go_wp2_with (at_builtin; refine wpList_push okDomino rfl _ _ rfl HA9.out rfl (nx, ny, nd) _ rfl _ rfl rfl (by omega) ?_; intro v10 w10 HA10 HG10)
          go_roundw
          case rel => exact ⟨k + 1, _, by omega, by go_num, rfl, by rw [HMV.out]; exact HA10⟩
          case measure => simp [intOf]; omega
    · obtain rfl : k = ls.length := by omega
      have ht : decide ((ls.length : Int) < (ls.length : Int)) = false := by simp
      have HRD := Lib.hid (HA.out.1.rd okDomino)
      have HML := Lib.hid hml
      clear hml
      have HBA := Lib.hid HA.out.2.1
      go_wp2_with fail
      refine (specSortDominoes_any _ (mv ls.length) _ _ HRD.out (Nat.le_refl _)).mono ?_
      rintro e w9 ⟨u9, rfl, ho9, hb9⟩
      have ho9 : OwnF elDomino w9 wr.heap.size u9 (sortI (mv ls.length) ls.length) := by rw [HML.out] at ho9; exact ho9
      have HO9 := Lib.hid (ho9.mono HBA.out.size)
      have HB9 := Lib.hid (HBA.out.trans (hb9.mono HBA.out.size))
      clear ho9 hb9
      go_wp2_with fail
      go_ret
      exact ⟨_, rfl, HO9.out, HB9.out⟩

set_option maxRecDepth 100000 in
set_option maxHeartbeats 4000000 in
theorem specTurnTiling_any (s : Int) (v : Value) (ls : List Lk) (B : Nat) (w : World) (h : RdF elDomino w B v ls) (hB : B ≤ w.heap.size) :
    Calls Try.prog 18 #[.int .i64 s, v] w (RetTiling w (fltB s s ls) (movZ true s ls)) := by
  have HV := Lib.hid h
  have HSQ := Lib.hid (l19Square_any s v ls B w h hB)
  cases hf : fltB s s ls
  · have HZ : Hid (movZ true s ls = []) := by unfold Hid movZ; rw [hf]; rfl
    rw [HZ.out]
    rw [hf] at HSQ
    clear h hf HZ
    go_enter Try.func18, Try.ntmps18
    go_wp2_with fail
    refine HSQ.out.mono ?_
    rintro e w1 ⟨rfl, hb1⟩
    have HO : Hid (OwnF elDomino (w1.alloc (.cells #[] 46)) w.heap.size (.slice (some ⟨w1.heap.size, 0, none⟩) 0 0) []) := OwnF.empty hb1.size
    have HB1 : Hid (Below w.heap.size w (w1.alloc (.cells #[] 46))) := hb1.alloc hb1.size _
    clear hb1
    go_wp2_with fail
    exact bodyPost_ret (v := .tuple #[.slice (some ⟨w1.heap.size, 0, none⟩) 0 0, .bool false]) (by simp [results, Try.results18, go_sem]) rfl ⟨_, rfl, HO.out, HB1.out⟩
  · obtain ⟨s, rfl⟩ : ∃ n : Nat, s = (n : Int) := by
      have h9 := hf
      unfold fltB at h9
      simp only [Bool.and_eq_true, inB_iff] at h9
      exact ⟨s.toNat, by omega⟩
    rw [hf] at HSQ
    have HC := Lib.hid (fun (W : World) (hb : Below w.heap.size w W) => l19Moved_turn s v ls B W (HV.out.below (hb.mono hB)) (Nat.le_trans hB hb.size) hf)
    generalize movZ true (s : Int) ls = zs at *
    clear h hf
    go_enter Try.func18, Try.ntmps18
    go_wp2_with fail
    refine HSQ.out.mono ?_
    rintro e w1 ⟨rfl, hb1⟩
    have HB0 := Lib.hid hb1
    clear hb1
    go_wp2_with fail
    refine (HC.out _ HB0.out).mono ?_
    rintro e w2 ⟨u1, rfl, ho1, hb1⟩
    have HO1 := Lib.hid (ho1.mono HB0.out.size)
    have HB1 := Lib.hid (HB0.out.trans (hb1.mono HB0.out.size))
    clear ho1 hb1
    go_wp2_with fail
    exact bodyPost_ret (v := .tuple #[u1, .bool true]) (by simp [results, Try.results18, go_sem]) rfl ⟨_, rfl, HO1.out, HB1.out⟩

end Go.Proofs.Ytehnbalbpfmijaa
