/- The walk of the reference's SortDominoes. -/
import Derived.Test.YtiecphhenpapoaaSortI
import Derived.Test.YtiecphhenpapoaaSDom
import Derived.Test.YtiecphhenpapoaaAppendF
namespace Go.Proofs.Ytiecphhenpapoaa
open Go.RowKit
set_option linter.unusedVariables false

theorem addOff (g a n : Nat) : (⟨g, a, none⟩ : Addr).add n = ⟨g, a + n, none⟩ := by unfold Addr.add; split <;> simp_all
section
variable {α : Type} {E : El α}
theorem RdF.take {w : World} {B c : Nat} {A : Option Addr} {xs : List α} (h : RdF E w B (.slice A xs.length c) xs) {j : Nat} (hj : j ≤ xs.length) : RdF E w B (.slice A j c) (xs.take j) := by
  obtain ⟨A', c', hv, h1, h2, h3⟩ := h
  obtain ⟨rfl, rfl⟩ : A = A' ∧ c = c' := by simp at hv; exact hv
  have hl : (xs.take j).length = j := by simp; omega
  refine ⟨A, c, by rw [hl], by omega, h2, fun i x hx => h3 i x ?_⟩
  rw [List.getElem?_take] at hx
  split at hx
  · exact hx
  · simp at hx
theorem RdF.drop {w : World} {B c g : Nat} {xs : List α} (h : RdF E w B (.slice (some ⟨g, 0, none⟩) xs.length c) xs) {j : Nat} (hj : j ≤ xs.length) : RdF E w B (.slice (if c = j then some ⟨g, 0, none⟩ else some ⟨g, j * E.s, none⟩) (xs.length - j) (c - j)) (xs.drop j) := by
  obtain ⟨A', c', hv, h1, h2, h3⟩ := h
  obtain ⟨rfl, rfl⟩ : some (⟨g, 0, none⟩ : Addr) = A' ∧ c = c' := by simp at hv; exact ⟨hv.1, hv.2⟩
  have hl : (xs.drop j).length = xs.length - j := by simp
  refine ⟨_, c - j, by rw [hl], by omega, by omega, fun i x hx => ?_⟩
  have hi := (List.getElem?_eq_some_iff.1 hx).1
  rw [hl] at hi
  rw [List.getElem?_drop] at hx
  obtain ⟨ad, e, hb, hc⟩ := h3 (j + i) x hx
  obtain rfl := Option.some.inj e
  refine ⟨⟨g, j * E.s, none⟩, by rw [if_neg (by omega)], hb, fun q u hu => ?_⟩
  have := hc q u hu
  rw [addOff] at this
  rw [addOff]
  rw [show 0 + ((j + i) * E.s + q) = j * E.s + (i * E.s + q) by rw [Nat.add_mul]; omega] at this
  exact this
theorem RdF.void {w : World} {B c n : Nat} {A : Option Addr} (hn : n = 0) (hc : c ≤ maxLen) : RdF E w B (.slice A n c) ([] : List α) := ⟨A, c, by rw [hn]; rfl, Nat.zero_le _, hc, fun j x hx => by simp at hx⟩
end
/-- Two elements of rows, in a world that grows. -/
abbrev TwoE (V w' : World) (p : Addr) (x y : Int) (d : Bool) (q : Addr) (x' y' : Int) (d' : Bool) : Prop := w'.cell? p = some (.int .i64 x) ∧ w'.cell? ⟨p.block, p.off + 1, none⟩ = some (.int .i64 y) ∧ w'.cell? ⟨p.block, p.off + 2, none⟩ = some (.bool d) ∧
  w'.cell? q = some (.int .i64 x') ∧ w'.cell? ⟨q.block, q.off + 1, none⟩ = some (.int .i64 y') ∧ w'.cell? ⟨q.block, q.off + 2, none⟩ = some (.bool d') ∧ V.heap.size ≤ w'.heap.size ∧ Below V.heap.size V w'
theorem TwoE.keep {V W0 w1 : World} {p : Addr} {x y : Int} {d : Bool} {q : Addr} {x' y' : Int} {d' : Bool} (hb : Below W0.heap.size W0 w1) (ha : p.block < V.heap.size) (hp : q.block < V.heap.size) (h : TwoE V W0 p x y d q x' y' d') : TwoE V w1 p x y d q x' y' d' := by
  obtain ⟨h1, h2, h3, h4, h5, h6, h7, h8⟩ := h
  exact ⟨(hb.cell (by omega)).trans h1, (hb.cell (by simp; omega)).trans h2, (hb.cell (by simp; omega)).trans h3, (hb.cell (by omega)).trans h4, (hb.cell (by simp; omega)).trans h5, (hb.cell (by simp; omega)).trans h6, Nat.le_trans h7 hb.size, h8.trans (hb.mono h7)⟩
theorem TwoE.drew {V W0 : World} {p : Addr} {x y : Int} {d : Bool} {q : Addr} {x' y' : Int} {d' : Bool} (h : TwoE V W0 p x y d q x' y' d') : TwoE V W0.drew p x y d q x' y' d' := ⟨h.1, h.2.1, h.2.2.1, h.2.2.2.1, h.2.2.2.2.1, h.2.2.2.2.2.1, h.2.2.2.2.2.2.1, h.2.2.2.2.2.2.2.drew⟩

set_option maxRecDepth 100000 in
set_option maxHeartbeats 4000000 in
theorem specSortDominoes_any (v : Value) (ls : List Lk) (B : Nat) (w : World) (h : RdF elDomino w B v ls) (hB : B ≤ w.heap.size) :
    Calls Try.prog 42 #[v] w fun e w' => ∃ u, e = .returned u ∧ OwnF elDomino w' w.heap.size u (sortI ls ls.length) ∧ Below w.heap.size w w' := by
  rw [(sort_same ls ls.length).1]
  obtain ⟨A, c, rfl, g1, g2, G3⟩ := RdT.of (E := elDomino) rfl (fun _ => rfl) h
  unfold maxLen at g2
  clear h
  have HA0 : Hid (Acc elDomino w w.heap.size (w.alloc (.cells #[] 58)) (.slice (some ⟨w.heap.size, 0, none⟩) 0 0) []) := Acc.start w
  have HSS := Lib.hid (sort_same ls)
  have HSI : Hid (∀ k, sortS ls (k + 1) = if domL (dAt ls k) then insS (dAt ls k) (sortS ls k) else sortS ls k) := fun k => rfl
  have HS0 : Hid (sortS ls 0 = []) := rfl
  obtain ⟨st, HST⟩ : ∃ st, Hid (st = sortS ls) := ⟨_, rfl⟩
  rw [← HST.out] at HSI HS0 ⊢
  have HSR : Hid (∀ k, (st k).length ≤ 128) := fun k => by rw [HST.out, ← (HSS.out k).1]; exact (HSS.out k).2.short
  clear HST HSS
  go_enter Try.func42, Try.ntmps42
  go_wp2_with fail
  go_loopw [3, 4] (fun o i wr => ∃ (k g c2 : Nat), k ≤ ls.length ∧ i = .int .i64 k ∧ o = .slice (some ⟨g, 0, none⟩) (st k).length c2 ∧ Hid (Acc elDomino w w.heap.size wr (.slice (some ⟨g, 0, none⟩) (st k).length c2) (st k))) (fun _ i _ => ls.length - (intOf i).toNat)
  case atStart => exact ⟨0, _, _, Nat.zero_le _, rfl, by rw [HS0.out]; rfl, by rw [HS0.out]; exact HA0⟩
  case round =>
    obtain ⟨k, g, ca, hk, rfl, rfl, HA⟩ := hrel
    by_cases hlt : k < ls.length
    · have ht : decide ((k : Int) < (ls.length : Int)) = true := by simp only [decide_eq_true_eq]; omega
      obtain ⟨ad, rfl, hbl, hx, hy, hz⟩ := G3.out k hlt
      have hbl2 : (ad.add (k * 3)).block < w.heap.size := by rw [addBlock]; omega
      have hbw := HA.out.2.1
      have hx' := (hbw.cell (p := ad.add (k * 3)) hbl2).trans hx
      have hy' := (hbw.cell (p := ⟨(ad.add (k * 3)).block, (ad.add (k * 3)).off + 1, none⟩) hbl2).trans hy
      have hz' := (hbw.cell (p := ⟨(ad.add (k * 3)).block, (ad.add (k * 3)).off + 2, none⟩) hbl2).trans hz
      have HNX := Lib.hid (HSI.out k)
      have hshort := HSR.out k
      have HDA : Hid (dAt ls k = (lx ls k, ly ls k, ld ls k)) := rfl
      rw [HDA.out] at HNX
      have hk0 : (0 : Int) ≤ (k : Int) := by omega
      have hk1 : (k : Int) < (ls.length : Int) := by omega
      generalize lx ls k = x at *
      generalize ly ls k = y at *
      generalize ld ls k = d at *
      obtain ⟨ys, HYQ⟩ : ∃ ys, Hid (st k = ys) := ⟨_, rfl⟩
      rw [HYQ.out] at HA HNX hshort ⊢
      have hcap : ys.length ≤ ca ∧ ca ≤ maxLen := by
        obtain ⟨A9, c9, hv9, q1, q2, _⟩ := HA.out.1.rd okDomino
        simp at hv9
        omega
      obtain ⟨q1, q2⟩ := hcap
      unfold maxLen at q2
      have HXW : Hid (Three wr (ad.add (k * 3)) x y d) := ⟨hx', hy', hz'⟩
      have HADB := Lib.hid hbl2
      clear hx hy hz hbw HDA HYQ hbl2
      go_wp2_with fail
      refine (specDominoOk_any x y d _).mono ?_
      rintro e w1 ⟨rfl, hb1⟩
      have HA3 := Lib.hid (HA.out.below hb1)
      have hsz := HA.out.2.1.size
      have had : (ad.add (k * 3)).block < wr.heap.size := Nat.lt_of_lt_of_le HADB.out hsz
      have HX1 : Hid (Three w1 (ad.add (k * 3)) x y d) := ⟨(hb1.cell (p := ad.add (k * 3)) had).trans hx', (hb1.cell (p := ⟨(ad.add (k * 3)).block, (ad.add (k * 3)).off + 1, none⟩) had).trans hy', (hb1.cell (p := ⟨(ad.add (k * 3)).block, (ad.add (k * 3)).off + 2, none⟩) had).trans hz'⟩
      have HAD1 : Hid ((ad.add (k * 3)).block < w1.heap.size) := Nat.lt_of_lt_of_le had hb1.size
      clear hb1 hsz had hx' hy' hz' HXW
      obtain ⟨f1, f2, f3⟩ := HX1.out
      cases hd : domB x y d
      · have HE : Hid (st (k + 1) = ys) := by unfold Hid; rw [HNX.out, if_neg (by simp [domL, hd])]
        clear HNX hd
        go_wp2_with fail
        go_roundw
        case rel => exact ⟨k + 1, g, ca, by omega, by go_num, by rw [HE.out], by rw [HE.out]; exact HA3⟩
        case measure => simp [intOf]; omega
      · have HE : Hid (st (k + 1) = if decide (upK ys (x, y, d) ys.length 0 < ys.length) && (dAt ys (upK ys (x, y, d) ys.length 0) == (x, y, d)) then ys else ys.take (upK ys (x, y, d) ys.length 0) ++ [(x, y, d)] ++ ys.drop (upK ys (x, y, d) ys.length 0)) := by unfold Hid; rw [HNX.out, if_pos (by simp [domL, hd])]; rfl
        obtain ⟨q, HQ⟩ : ∃ q, Hid (upK ys (x, y, d) ys.length 0 = q) := ⟨_, rfl⟩
        rw [HQ.out] at HE
        clear HNX hd
        go_wp2_with fail
        go_loopw [5] (fun s wr2 => ∃ j : Nat, j ≤ ys.length ∧ s = .int .i64 j ∧ Hid (upK ys (x, y, d) (ys.length - j) j = q) ∧ Hid (Below w1.heap.size w1 wr2)) (fun s _ => ys.length - (intOf s).toNat)
        case atStart => exact ⟨0, Nat.zero_le _, rfl, HQ, Below.refl _ _⟩
        case round =>
          obtain ⟨j, hj, rfl, HJ, HB⟩ := hrel
          have HA4 := Lib.hid (HA3.out.below HB.out)
          have HX2 : Hid (Three wr (ad.add (k * 3)) x y d) := ⟨(HB.out.cell (p := ad.add (k * 3)) HAD1.out).trans HX1.out.1, (HB.out.cell (p := ⟨(ad.add (k * 3)).block, (ad.add (k * 3)).off + 1, none⟩) HAD1.out).trans HX1.out.2.1, (HB.out.cell (p := ⟨(ad.add (k * 3)).block, (ad.add (k * 3)).off + 2, none⟩) HAD1.out).trans HX1.out.2.2⟩
          have HAD2 : Hid ((ad.add (k * 3)).block < wr.heap.size) := Nat.lt_of_lt_of_le HAD1.out HB.out.size
          clear f1 f2 f3
          obtain ⟨e1, e2, e3⟩ := HX2.out
          have hj0 : (0 : Int) ≤ (j : Int) := by omega
          by_cases hjl : j < ys.length
          · have htj : decide (j < ys.length) = true := by simp only [decide_eq_true_eq]; omega
            have hj1 : (j : Int) < (ys.length : Int) := by omega
            obtain ⟨c0, c1, c2, _⟩ := triStore okDomino rfl (fun _ => rfl) HA4.out.1 hjl
            have HDM : Hid (dAt ys j = (lx ys j, ly ys j, ld ys j)) := rfl
            have HJ2 : Hid ((if domLt (lx ys j, ly ys j, ld ys j) (x, y, d) then upK ys (x, y, d) (ys.length - (j + 1)) (j + 1) else j) = q) := by
              unfold Hid; rw [← HJ.out, show ys.length - j = (ys.length - (j + 1)) + 1 by omega, upK, htj, HDM.out]; rfl
            have hgl : g < wr.heap.size := (HA4.out.1.lt g rfl).2
            have HGL := Lib.hid hgl
            generalize lx ys j = x2 at *
            generalize ly ys j = y2 at *
            generalize ld ys j = d2 at *
            have HS0 : Hid (TwoE wr wr (ad.add (k * 3)) x y d ⟨g, j * 3, none⟩ x2 y2 d2) := ⟨e1, e2, e3, c0, c1, c2, Nat.le_refl _, Below.refl _ _⟩
            clear hgl
            go_wp2_with fail
            go_region_held3 (fun w' => TwoE wr w' (ad.add (k * 3)) x y d ⟨g, j * 3, none⟩ x2 y2 d2)
              (first
                | exact HS0.out.drew
                | exact TwoE.keep hb1 HAD2.out HGL.out (by assumption))
              (first
                | (go_at_call 112; refine (specBefore_any x2 y2 d2 x y d _).mono ?_; rintro e w3 ⟨rfl, hb1⟩))
            have HP3 := Lib.hid (show TwoE wr _ (ad.add (k * 3)) x y d ⟨g, j * 3, none⟩ x2 y2 d2 from by assumption)
            clear e1 e2 e3 c0 c1 c2
            obtain ⟨e1, e2, e3, c0, c1, c2, _, hb3⟩ := HP3.out
            have HB3 := Lib.hid hb3
            clear hb3
            cases hlt2 : domLt (x2, y2, d2) (x, y, d)
            · have HQJ : Hid (q = j) := by unfold Hid; rw [← HJ2.out, if_neg (by simp [hlt2])]
              clear HJ2 hlt2
              by_cases heq : (x2, y2, d2) = (x, y, d)
              · have HE1 : Hid (st (k + 1) = ys) := by
                  unfold Hid; rw [HE.out, HQJ.out, if_pos]
                  rw [HDM.out, heq, htj]; simp
                simp only [Prod.mk.injEq] at heq
                obtain ⟨rfl, rfl, rfl⟩ := heq
                go_wp2_with fail
                go_quiet (fail)
                have HA9 := Lib.hid (HA4.out.below (HB3.out.trans (Drawn.below ⟨nq, rfl⟩ _)))
                go_wp2_with fail
                go_roundw
                case rel => exact ⟨k + 1, g, ca, by omega, by go_num, by rw [HE1.out], by rw [HE1.out]; exact HA9⟩
                case measure => simp [intOf]; omega
              · have HE0 : Hid (st (k + 1) = ys.take j ++ [(x, y, d)] ++ ys.drop j) := by
                  unfold Hid; rw [HE.out, HQJ.out, if_neg]
                  rw [HDM.out]
                  simpa [hjl] using heq
                have hsq : ∀ W : World, Sem.run Try.prog (binOp .eql 58 (.agg #[.int .i64 x2, .int .i64 y2, .bool d2]) (.agg #[.int .i64 x, .int .i64 y, .bool d])) W = .ok (.bool false) W := fun W => by
                  by_cases h1 : x2 = x
                  · by_cases h2 : y2 = y
                    · have h3 : ¬ d2 = d := fun h => heq (by rw [h1, h2, h])
                      go_simp
                    · go_simp
                  · go_simp
                clear heq HE
                go_wp2_with fail
                go_quiet (fail)
                clear hsq
                obtain ⟨W6, HW6⟩ : ∃ W6, Hid (W6 = World.drewN w3 nq) := ⟨_, rfl⟩
                rw [← HW6.out]
                have HBW : Hid (Below wr.heap.size wr W6) := by unfold Hid; rw [HW6.out]; exact HB3.out.trans (Drawn.below ⟨_, rfl⟩ _)
                clear c0 c1 c2
                have hcj : ¬ ca = j := by omega
                have HA6 := Lib.hid (HA4.out.below HBW.out)
                have hs6 := HBW.out.size
                have HX6 : Hid (Three W6 (ad.add (k * 3)) x y d) := ⟨(HBW.out.cell (p := ad.add (k * 3)) HAD2.out).trans HX2.out.1, (HBW.out.cell (p := ⟨(ad.add (k * 3)).block, (ad.add (k * 3)).off + 1, none⟩) HAD2.out).trans HX2.out.2.1, (HBW.out.cell (p := ⟨(ad.add (k * 3)).block, (ad.add (k * 3)).off + 2, none⟩) HAD2.out).trans HX2.out.2.2⟩
                have HAD6 : Hid ((ad.add (k * 3)).block < W6.heap.size) := Nat.lt_of_lt_of_le HAD2.out hs6
                have HR6 := Lib.hid (HA6.out.1.rd okDomino)
                have HN0 : Hid (Acc elDomino W6 W6.heap.size (W6.alloc (.cells #[] 58)) (.slice (some ⟨W6.heap.size, 0, none⟩) 0 0) []) := Acc.start W6
                have HR7 : Hid (RdF elDomino (W6.alloc (.cells #[] 58)) W6.heap.size (.slice (some ⟨g, 0, none⟩) j ca) (ys.take j)) := (HR6.out.below ((Below.refl _ _).alloc (Nat.le_refl _) _)).take hj
                have hjle : (j : Int) ≤ (ys.length : Int) := by omega
                have hjc : (j : Int) ≤ (ca : Int) := by omega
                clear e1 e2 e3 hs6
                go_wp2_with (first
                  | (at_builtin; refine wpList_pushSrcF okDomino rfl _ _ rfl HN0.out rfl (ys.take j) _ _ HR7.out rfl (by simp; omega) ?_; intro v8 w8 HN1 HG8; rw [List.nil_append] at HN1; obtain ⟨A8, c8, hv8, _⟩ := HN1.out.1.rd okDomino; rw [show (ys.take j).length = j by simp; omega] at hv8; subst hv8; have hb8 := HN1.out.2.1; have i1 := (hb8.cell (p := ad.add (k * 3)) HAD6.out).trans HX6.out.1; have i2 := (hb8.cell (p := ⟨(ad.add (k * 3)).block, (ad.add (k * 3)).off + 1, none⟩) HAD6.out).trans HX6.out.2.1; have i3 := (hb8.cell (p := ⟨(ad.add (k * 3)).block, (ad.add (k * 3)).off + 2, none⟩) HAD6.out).trans HX6.out.2.2; clear hb8)
                  | (at_builtin; refine wpList_push okDomino rfl _ _ rfl HN1.out rfl (x, y, d) _ rfl _ rfl rfl (by simp; omega) ?_; intro v9 w9 HN2 HG9; clear i1 i2 i3; obtain ⟨A9, c9, hv9, _⟩ := HN2.out.1.rd okDomino; rw [show (ys.take j ++ [((x, y, d) : Lk)]).length = j + 1 by simp; omega] at hv9; subst hv9; have h9 := (HR6.out.below HN2.out.2.1).drop hj; rw [if_neg hcj] at h9; have HR9 := Lib.hid h9; clear h9)
                  | (at_builtin; refine wpList_pushSrcF okDomino rfl _ _ rfl HN2.out rfl (ys.drop j) _ _ HR9.out rfl (by simp; omega) ?_; intro v10 w10 HN3 HG10; rw [← HE0.out] at HN3; have hp3 : 0 < (st (k + 1)).length := (by rw [HE0.out]; simp only [List.length_append, List.length_singleton]; omega); obtain ⟨g10, c10, hv10, _, _⟩ := World.ownsRow.form HN3.out.1 hp3; subst hv10))
                all_goals
                  have hmono := HA6.out.2.1.size
                  go_roundw
                  case rel => exact ⟨k + 1, g10, c10, by omega, by go_num, rfl, ⟨HN3.out.1.mono hmono, HA6.out.2.1.trans (HN3.out.2.1.mono hmono), Nat.le_refl _, Nat.le_trans hmono HN3.out.2.1.size⟩⟩
                  case measure => simp [intOf]; omega
            · have HJ3 : Hid (upK ys (x, y, d) (ys.length - (j + 1)) (j + 1) = q) := by unfold Hid; rw [← HJ2.out, if_pos hlt2]
              have HB4 := Lib.hid (HB.out.trans (HB3.out.mono HB.out.size))
              clear HJ2
              go_wp2_with fail
              go_roundw
              case rel => exact ⟨j + 1, by omega, by go_num, HJ3, HB4⟩
              case measure => simp [intOf]; omega
          · have htj : decide (j < ys.length) = false := by simp only [decide_eq_false_iff_not]; omega
            have HQJ : Hid (q = j) := by unfold Hid; rw [← HJ.out, show ys.length - j = 0 by omega]; rfl
            have HE0 : Hid (st (k + 1) = ys.take j ++ [(x, y, d)] ++ ys.drop j) := by
              unfold Hid; rw [HE.out, HQJ.out, htj]; simp
            go_wp2_with fail
            go_quiet (fail)
            obtain ⟨W5, HW5⟩ : ∃ W5, Hid (W5 = wr.drewN nq) := ⟨_, rfl⟩
            rw [← HW5.out]
            go_wp2_with fail
            go_quiet (fail)
            obtain ⟨W6, HW6⟩ : ∃ W6, Hid (W6 = W5.drewN nq) := ⟨_, rfl⟩
            rw [← HW6.out]
            have HBW : Hid (Below wr.heap.size wr W6) := by unfold Hid; rw [HW6.out, HW5.out]; exact (Drawn.below ⟨_, rfl⟩ _).trans ((Drawn.below ⟨_, rfl⟩ _))
            have HE9 : Hid (st (k + 1) = ys.take j ++ [(x, y, d)]) := by unfold Hid; rw [HE0.out, List.drop_of_length_le (by omega)]; simp
            have HA6 := Lib.hid (HA4.out.below HBW.out)
            have hs6 := HBW.out.size
            have HX6 : Hid (Three W6 (ad.add (k * 3)) x y d) := ⟨(HBW.out.cell (p := ad.add (k * 3)) HAD2.out).trans HX2.out.1, (HBW.out.cell (p := ⟨(ad.add (k * 3)).block, (ad.add (k * 3)).off + 1, none⟩) HAD2.out).trans HX2.out.2.1, (HBW.out.cell (p := ⟨(ad.add (k * 3)).block, (ad.add (k * 3)).off + 2, none⟩) HAD2.out).trans HX2.out.2.2⟩
            have HAD6 : Hid ((ad.add (k * 3)).block < W6.heap.size) := Nat.lt_of_lt_of_le HAD2.out hs6
            have HR6 := Lib.hid (HA6.out.1.rd okDomino)
            have HN0 : Hid (Acc elDomino W6 W6.heap.size (W6.alloc (.cells #[] 58)) (.slice (some ⟨W6.heap.size, 0, none⟩) 0 0) []) := Acc.start W6
            have HR7 : Hid (RdF elDomino (W6.alloc (.cells #[] 58)) W6.heap.size (.slice (some ⟨g, 0, none⟩) j ca) (ys.take j)) := (HR6.out.below ((Below.refl _ _).alloc (Nat.le_refl _) _)).take hj
            have hjle : (j : Int) ≤ (ys.length : Int) := by omega
            have hjc : (j : Int) ≤ (ca : Int) := by omega
            clear e1 e2 e3 hs6
            go_wp2_with (first
              | (at_builtin; refine wpList_pushSrcF okDomino rfl _ _ rfl HN0.out rfl (ys.take j) _ _ HR7.out rfl (by simp; omega) ?_; intro v8 w8 HN1 HG8; rw [List.nil_append] at HN1; obtain ⟨A8, c8, hv8, _⟩ := HN1.out.1.rd okDomino; rw [show (ys.take j).length = j by simp; omega] at hv8; subst hv8; have hb8 := HN1.out.2.1; have i1 := (hb8.cell (p := ad.add (k * 3)) HAD6.out).trans HX6.out.1; have i2 := (hb8.cell (p := ⟨(ad.add (k * 3)).block, (ad.add (k * 3)).off + 1, none⟩) HAD6.out).trans HX6.out.2.1; have i3 := (hb8.cell (p := ⟨(ad.add (k * 3)).block, (ad.add (k * 3)).off + 2, none⟩) HAD6.out).trans HX6.out.2.2; clear hb8)
              | (at_builtin; refine wpList_push okDomino rfl _ _ rfl HN1.out rfl (x, y, d) _ rfl _ rfl rfl (by simp; omega) ?_; intro v9 w9 HN2 HG9; clear i1 i2 i3; obtain ⟨A9, c9, hv9, _⟩ := HN2.out.1.rd okDomino; rw [show (ys.take j ++ [((x, y, d) : Lk)]).length = j + 1 by simp; omega] at hv9; subst hv9)
              | (at_builtin; refine wpList_pushSrcF okDomino rfl _ _ rfl HN2.out rfl [] 0 _ ?hr9 rfl (by simp; omega) ?_; (case hr9 => exact RdF.void (by omega) (by unfold maxLen; omega)); intro v10 w10 HN3 HG10; rw [List.append_nil, ← HE9.out] at HN3; have hp3 : 0 < (st (k + 1)).length := (by rw [HE9.out]; simp only [List.length_append, List.length_singleton]; omega); obtain ⟨g10, c10, hv10, _, _⟩ := World.ownsRow.form HN3.out.1 hp3; subst hv10))
            all_goals
              have hmono := HA6.out.2.1.size
              go_roundw
              case rel => exact ⟨k + 1, g10, c10, by omega, by go_num, rfl, ⟨HN3.out.1.mono hmono, HA6.out.2.1.trans (HN3.out.2.1.mono hmono), Nat.le_refl _, Nat.le_trans hmono HN3.out.2.1.size⟩⟩
              case measure => simp [intOf]; omega
    · obtain rfl : k = ls.length := by omega
      have ht : decide ((ls.length : Int) < (ls.length : Int)) = false := by simp
      go_wp2_with fail
      go_ret
      exact ⟨_, rfl, HA.out.1, HA.out.2.1⟩
end Go.Proofs.Ytiecphhenpapoaa
