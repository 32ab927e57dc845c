/- What the claim's walk rests on: parts SortS, TilS, DAt, TotP, Set2, TreeFloorS, SameD. -/
import Derived.Test.YtehnbalbpfmijaaKu11
import Derived.Test.YtehnbalbpfmijaaKu8
import Derived.Test.YtehnbalbpfmijaaKu12
import Derived.Test.YtehnbalbpfmijaaKu10
import Derived.Test.YtehnbalbpfmijaaKu4
import Derived.Test.YtehnbalbpfmijaaKu5
import Derived.Test.YtehnbalbpfmijaaKu6
import Derived.OwnWalk
import Derived.Deep.QuietTactic
import Derived.BigQuiet
namespace Go.Proofs.Ytehnbalbpfmijaa
open Go.RowKit
set_option linter.unusedVariables false

theorem addOff (g a n : Nat) : (⟨g, a, none⟩ : Addr).add n = ⟨g, a + n, none⟩ := by unfold Addr.add; split <;> simp_all
section
variable {α : Type} {E : El α}
theorem RdF.take {w : World} {B c : Nat} {A : Option Addr} {xs : List α} (h : RdF E w B (.slice A xs.length c) xs) {j : Nat} (hj : j ≤ xs.length) : RdF E w B (.slice A j c) (xs.take j) := by
  obtain ⟨A', c', hv, h1, h2, h3⟩ := h
  obtain ⟨rfl, rfl⟩ : A = A' ∧ c = c' := by simp at hv; exact hv
  have hl : (xs.take j).length = j := by simp; omega
  refine ⟨A, c, by rw [hl], by omega, h2, fun i x hx => h3 i x ?_⟩
  rw [List.getElem?_take] at hx
  split at hx
  · exact hx
  · simp at hx
theorem RdF.drop {w : World} {B c g : Nat} {xs : List α} (h : RdF E w B (.slice (some ⟨g, 0, none⟩) xs.length c) xs) {j : Nat} (hj : j ≤ xs.length) : RdF E w B (.slice (if c = j then some ⟨g, 0, none⟩ else some ⟨g, j * E.s, none⟩) (xs.length - j) (c - j)) (xs.drop j) := by
  obtain ⟨A', c', hv, h1, h2, h3⟩ := h
  obtain ⟨rfl, rfl⟩ : some (⟨g, 0, none⟩ : Addr) = A' ∧ c = c' := by simp at hv; exact ⟨hv.1, hv.2⟩
  have hl : (xs.drop j).length = xs.length - j := by simp
  refine ⟨_, c - j, by rw [hl], by omega, by omega, fun i x hx => ?_⟩
  have hi := (List.getElem?_eq_some_iff.1 hx).1
  rw [hl] at hi
  rw [List.getElem?_drop] at hx
  obtain ⟨ad, e, hb, hc⟩ := h3 (j + i) x hx
  obtain rfl := Option.some.inj e
  refine ⟨⟨g, j * E.s, none⟩, by rw [if_neg (by omega)], hb, fun q u hu => ?_⟩
  have := hc q u hu
  rw [addOff] at this
  rw [addOff]
  rw [show 0 + ((j + i) * E.s + q) = j * E.s + (i * E.s + q) by rw [Nat.add_mul]; omega] at this
  exact this
theorem RdF.void {w : World} {B c n : Nat} {A : Option Addr} (hn : n = 0) (hc : c ≤ maxLen) : RdF E w B (.slice A n c) ([] : List α) := ⟨A, c, by rw [hn]; rfl, Nat.zero_le _, hc, fun j x hx => by simp at hx⟩
end
/-- Two elements of rows, in a world that grows. -/
abbrev TwoE (V w' : World) (p : Addr) (x y : Int) (d : Bool) (q : Addr) (x' y' : Int) (d' : Bool) : Prop := w'.cell? p = some (.int .i64 x) ∧ w'.cell? ⟨p.block, p.off + 1, none⟩ = some (.int .i64 y) ∧ w'.cell? ⟨p.block, p.off + 2, none⟩ = some (.bool d) ∧
  w'.cell? q = some (.int .i64 x') ∧ w'.cell? ⟨q.block, q.off + 1, none⟩ = some (.int .i64 y') ∧ w'.cell? ⟨q.block, q.off + 2, none⟩ = some (.bool d') ∧ V.heap.size ≤ w'.heap.size ∧ Below V.heap.size V w'
theorem TwoE.keep {V W0 w1 : World} {p : Addr} {x y : Int} {d : Bool} {q : Addr} {x' y' : Int} {d' : Bool} (hb : Below W0.heap.size W0 w1) (ha : p.block < V.heap.size) (hp : q.block < V.heap.size) (h : TwoE V W0 p x y d q x' y' d') : TwoE V w1 p x y d q x' y' d' := by
  obtain ⟨h1, h2, h3, h4, h5, h6, h7, h8⟩ := h
  exact ⟨(hb.cell (by omega)).trans h1, (hb.cell (by simp; omega)).trans h2, (hb.cell (by simp; omega)).trans h3, (hb.cell (by omega)).trans h4, (hb.cell (by simp; omega)).trans h5, (hb.cell (by simp; omega)).trans h6, Nat.le_trans h7 hb.size, h8.trans (hb.mono h7)⟩
theorem TwoE.drew {V W0 : World} {p : Addr} {x y : Int} {d : Bool} {q : Addr} {x' y' : Int} {d' : Bool} (h : TwoE V W0 p x y d q x' y' d') : TwoE V W0.drew p x y d q x' y' d' := ⟨h.1, h.2.1, h.2.2.1, h.2.2.2.1, h.2.2.2.2.1, h.2.2.2.2.2.1, h.2.2.2.2.2.2.1, h.2.2.2.2.2.2.2.drew⟩

set_option maxRecDepth 100000 in
set_option maxHeartbeats 4000000 in
theorem specSortDominoes_any (v : Value) (ls : List Lk) (B : Nat) (w : World) (h : RdF elDomino w B v ls) (hB : B ≤ w.heap.size) :
    Calls Try.prog 28 #[v] w fun e w' => ∃ u, e = .returned u ∧ OwnF elDomino w' w.heap.size u (sortI ls ls.length) ∧ Below w.heap.size w w' := by
  rw [(sort_same ls ls.length).1]
  obtain ⟨A, c, rfl, g1, g2, G3⟩ := RdT.of (E := elDomino) rfl (fun _ => rfl) h
  unfold maxLen at g2
  clear h
  have HA0 : Hid (Acc elDomino w w.heap.size (w.alloc (.cells #[] 46)) (.slice (some ⟨w.heap.size, 0, none⟩) 0 0) []) := Acc.start w
  have HSS := Lib.hid (sort_same ls)
  have HSI : Hid (∀ k, sortS ls (k + 1) = if domL (dAt ls k) then insS (dAt ls k) (sortS ls k) else sortS ls k) := fun k => rfl
  have HS0 : Hid (sortS ls 0 = []) := rfl
  obtain ⟨st, HST⟩ : ∃ st, Hid (st = sortS ls) := ⟨_, rfl⟩
  rw [← HST.out] at HSI HS0 ⊢
  have HSR : Hid (∀ k, (st k).length ≤ 128) := fun k => by rw [HST.out, ← (HSS.out k).1]; exact (HSS.out k).2.short
  clear HST HSS
  go_enter Try.func28, Try.ntmps28
  go_wp2_with fail
  go_loopw [3, 4] (fun o i wr => ∃ (k g c2 : Nat), k ≤ ls.length ∧ i = .int .i64 k ∧ o = .slice (some ⟨g, 0, none⟩) (st k).length c2 ∧ Hid (Acc elDomino w w.heap.size wr (.slice (some ⟨g, 0, none⟩) (st k).length c2) (st k))) (fun _ i _ => ls.length - (intOf i).toNat)
  case atStart => exact ⟨0, _, _, Nat.zero_le _, rfl, by rw [HS0.out]; rfl, by rw [HS0.out]; exact HA0⟩
  case round =>
    obtain ⟨k, g, ca, hk, rfl, rfl, HA⟩ := hrel
    by_cases hlt : k < ls.length
    · have ht : decide ((k : Int) < (ls.length : Int)) = true := by simp only [decide_eq_true_eq]; omega
      obtain ⟨ad, rfl, hbl, hx, hy, hz⟩ := G3.out k hlt
      have hbl2 : (ad.add (k * 3)).block < w.heap.size := by rw [addBlock]; omega
      have hbw := HA.out.2.1
      have hx' := (hbw.cell (p := ad.add (k * 3)) hbl2).trans hx
      have hy' := (hbw.cell (p := ⟨(ad.add (k * 3)).block, (ad.add (k * 3)).off + 1, none⟩) hbl2).trans hy
      have hz' := (hbw.cell (p := ⟨(ad.add (k * 3)).block, (ad.add (k * 3)).off + 2, none⟩) hbl2).trans hz
      have HNX := Lib.hid (HSI.out k)
      have hshort := HSR.out k
      have HDA : Hid (dAt ls k = (lx ls k, ly ls k, ld ls k)) := rfl
      rw [HDA.out] at HNX
      have hk0 : (0 : Int) ≤ (k : Int) := by omega
      have hk1 : (k : Int) < (ls.length : Int) := by omega
      generalize lx ls k = x at *
      generalize ly ls k = y at *
      generalize ld ls k = d at *
      obtain ⟨ys, HYQ⟩ : ∃ ys, Hid (st k = ys) := ⟨_, rfl⟩
      rw [HYQ.out] at HA HNX hshort ⊢
      have hcap : ys.length ≤ ca ∧ ca ≤ maxLen := by
        obtain ⟨A9, c9, hv9, q1, q2, _⟩ := HA.out.1.rd okDomino
        simp at hv9
        omega
      obtain ⟨q1, q2⟩ := hcap
      unfold maxLen at q2
      have HXW : Hid (Three wr (ad.add (k * 3)) x y d) := ⟨hx', hy', hz'⟩
      have HADB := Lib.hid hbl2
      clear hx hy hz hbw HDA HYQ hbl2
      go_wp2_with fail
      refine (specDominoOk_any x y d _).mono ?_
      rintro e w1 ⟨rfl, hb1⟩
      have HA3 := Lib.hid (HA.out.below hb1)
      have hsz := HA.out.2.1.size
      have had : (ad.add (k * 3)).block < wr.heap.size := Nat.lt_of_lt_of_le HADB.out hsz
      have HX1 : Hid (Three w1 (ad.add (k * 3)) x y d) := ⟨(hb1.cell (p := ad.add (k * 3)) had).trans hx', (hb1.cell (p := ⟨(ad.add (k * 3)).block, (ad.add (k * 3)).off + 1, none⟩) had).trans hy', (hb1.cell (p := ⟨(ad.add (k * 3)).block, (ad.add (k * 3)).off + 2, none⟩) had).trans hz'⟩
      have HAD1 : Hid ((ad.add (k * 3)).block < w1.heap.size) := Nat.lt_of_lt_of_le had hb1.size
      clear hb1 hsz had hx' hy' hz' HXW
      obtain ⟨f1, f2, f3⟩ := HX1.out
      cases hd : domB x y d
      · have HE : Hid (st (k + 1) = ys) := by unfold Hid; rw [HNX.out, if_neg (by simp [domL, hd])]
        clear HNX hd
        go_wp2_with fail
        go_roundw
        case rel => exact ⟨k + 1, g, ca, by omega, by go_num, by rw [HE.out], by rw [HE.out]; exact HA3⟩
        case measure => simp [intOf]; omega
      · have HE : Hid (st (k + 1) = if decide (upK ys (x, y, d) ys.length 0 < ys.length) && (dAt ys (upK ys (x, y, d) ys.length 0) == (x, y, d)) then ys else ys.take (upK ys (x, y, d) ys.length 0) ++ [(x, y, d)] ++ ys.drop (upK ys (x, y, d) ys.length 0)) := by unfold Hid; rw [HNX.out, if_pos (by simp [domL, hd])]; rfl
        obtain ⟨q, HQ⟩ : ∃ q, Hid (upK ys (x, y, d) ys.length 0 = q) := ⟨_, rfl⟩
        rw [HQ.out] at HE
        clear HNX hd
        go_wp2_with fail
        go_loopw [5] (fun s wr2 => ∃ j : Nat, j ≤ ys.length ∧ s = .int .i64 j ∧ Hid (upK ys (x, y, d) (ys.length - j) j = q) ∧ Hid (Below w1.heap.size w1 wr2)) (fun s _ => ys.length - (intOf s).toNat)
        case atStart => exact ⟨0, Nat.zero_le _, rfl, HQ, Below.refl _ _⟩
        case round =>
          obtain ⟨j, hj, rfl, HJ, HB⟩ := hrel
          have HA4 := Lib.hid (HA3.out.below HB.out)
          have HX2 : Hid (Three wr (ad.add (k * 3)) x y d) := ⟨(HB.out.cell (p := ad.add (k * 3)) HAD1.out).trans HX1.out.1, (HB.out.cell (p := ⟨(ad.add (k * 3)).block, (ad.add (k * 3)).off + 1, none⟩) HAD1.out).trans HX1.out.2.1, (HB.out.cell (p := ⟨(ad.add (k * 3)).block, (ad.add (k * 3)).off + 2, none⟩) HAD1.out).trans HX1.out.2.2⟩
          have HAD2 : Hid ((ad.add (k * 3)).block < wr.heap.size) := Nat.lt_of_lt_of_le HAD1.out HB.out.size
          clear f1 f2 f3
          obtain ⟨e1, e2, e3⟩ := HX2.out
          have hj0 : (0 : Int) ≤ (j : Int) := by omega
          by_cases hjl : j < ys.length
          · have htj : decide (j < ys.length) = true := by simp only [decide_eq_true_eq]; omega
            have hj1 : (j : Int) < (ys.length : Int) := by omega
            obtain ⟨c0, c1, c2, _⟩ := triStore okDomino rfl (fun _ => rfl) HA4.out.1 hjl
            have HDM : Hid (dAt ys j = (lx ys j, ly ys j, ld ys j)) := rfl
            have HJ2 : Hid ((if domLt (lx ys j, ly ys j, ld ys j) (x, y, d) then upK ys (x, y, d) (ys.length - (j + 1)) (j + 1) else j) = q) := by
              unfold Hid; rw [← HJ.out, show ys.length - j = (ys.length - (j + 1)) + 1 by omega, upK, htj, HDM.out]; rfl
            have hgl : g < wr.heap.size := (HA4.out.1.lt g rfl).2
            have HGL := Lib.hid hgl
            generalize lx ys j = x2 at *
            generalize ly ys j = y2 at *
            generalize ld ys j = d2 at *
            have HS0 : Hid (TwoE wr wr (ad.add (k * 3)) x y d ⟨g, j * 3, none⟩ x2 y2 d2) := ⟨e1, e2, e3, c0, c1, c2, Nat.le_refl _, Below.refl _ _⟩
            clear hgl
            go_wp2_with fail
            go_region_held3 (fun w' => TwoE wr w' (ad.add (k * 3)) x y d ⟨g, j * 3, none⟩ x2 y2 d2)
              (first
                | exact HS0.out.drew
                | exact TwoE.keep hb1 HAD2.out HGL.out (by assumption))
              (first
                | (go_at_call 83; refine (specBefore_any x2 y2 d2 x y d _).mono ?_; rintro e w3 ⟨rfl, hb1⟩))
            have HP3 := Lib.hid (show TwoE wr _ (ad.add (k * 3)) x y d ⟨g, j * 3, none⟩ x2 y2 d2 from by assumption)
            clear e1 e2 e3 c0 c1 c2
            obtain ⟨e1, e2, e3, c0, c1, c2, _, hb3⟩ := HP3.out
            have HB3 := Lib.hid hb3
            clear hb3
            cases hlt2 : domLt (x2, y2, d2) (x, y, d)
            · have HQJ : Hid (q = j) := by unfold Hid; rw [← HJ2.out, if_neg (by simp [hlt2])]
              clear HJ2 hlt2
              by_cases heq : (x2, y2, d2) = (x, y, d)
              · have HE1 : Hid (st (k + 1) = ys) := by
                  unfold Hid; rw [HE.out, HQJ.out, if_pos]
                  rw [HDM.out, heq, htj]; simp
                simp only [Prod.mk.injEq] at heq
                obtain ⟨rfl, rfl, rfl⟩ := heq
                go_wp2_with fail
                go_quiet (fail)
                have HA9 := Lib.hid (HA4.out.below (HB3.out.trans (Drawn.below ⟨nq, rfl⟩ _)))
                go_wp2_with fail
                go_roundw
                case rel => exact ⟨k + 1, g, ca, by omega, by go_num, by rw [HE1.out], by rw [HE1.out]; exact HA9⟩
                case measure => simp [intOf]; omega
              · have HE0 : Hid (st (k + 1) = ys.take j ++ [(x, y, d)] ++ ys.drop j) := by
                  unfold Hid; rw [HE.out, HQJ.out, if_neg]
                  rw [HDM.out]
                  simpa [hjl] using heq
                have hsq : ∀ W : World, Sem.run Try.prog (binOp .eql 46 (.agg #[.int .i64 x2, .int .i64 y2, .bool d2]) (.agg #[.int .i64 x, .int .i64 y, .bool d])) W = .ok (.bool false) W := fun W => by
                  by_cases h1 : x2 = x
                  · by_cases h2 : y2 = y
                    · have h3 : ¬ d2 = d := fun h => heq (by rw [h1, h2, h])
                      go_simp
                    · go_simp
                  · go_simp
                clear heq HE
                go_wp2_with fail
                go_quiet (fail)
                clear hsq
                obtain ⟨W6, HW6⟩ : ∃ W6, Hid (W6 = World.drewN w3 nq) := ⟨_, rfl⟩
                rw [← HW6.out]
                have HBW : Hid (Below wr.heap.size wr W6) := by unfold Hid; rw [HW6.out]; exact HB3.out.trans (Drawn.below ⟨_, rfl⟩ _)
                clear c0 c1 c2
                have hcj : ¬ ca = j := by omega
                have HA6 := Lib.hid (HA4.out.below HBW.out)
                have hs6 := HBW.out.size
                have HX6 : Hid (Three W6 (ad.add (k * 3)) x y d) := ⟨(HBW.out.cell (p := ad.add (k * 3)) HAD2.out).trans HX2.out.1, (HBW.out.cell (p := ⟨(ad.add (k * 3)).block, (ad.add (k * 3)).off + 1, none⟩) HAD2.out).trans HX2.out.2.1, (HBW.out.cell (p := ⟨(ad.add (k * 3)).block, (ad.add (k * 3)).off + 2, none⟩) HAD2.out).trans HX2.out.2.2⟩
                have HAD6 : Hid ((ad.add (k * 3)).block < W6.heap.size) := Nat.lt_of_lt_of_le HAD2.out hs6
                have HR6 := Lib.hid (HA6.out.1.rd okDomino)
                have HN0 : Hid (Acc elDomino W6 W6.heap.size (W6.alloc (.cells #[] 46)) (.slice (some ⟨W6.heap.size, 0, none⟩) 0 0) []) := Acc.start W6
                have HR7 : Hid (RdF elDomino (W6.alloc (.cells #[] 46)) W6.heap.size (.slice (some ⟨g, 0, none⟩) j ca) (ys.take j)) := (HR6.out.below ((Below.refl _ _).alloc (Nat.le_refl _) _)).take hj
                have hjle : (j : Int) ≤ (ys.length : Int) := by omega
                have hjc : (j : Int) ≤ (ca : Int) := by omega
                clear e1 e2 e3 hs6
                go_wp2_with (first
                  | (at_builtin; refine wpList_pushSrcF okDomino rfl _ _ rfl HN0.out rfl (ys.take j) _ _ HR7.out rfl (by simp; omega) ?_; intro v8 w8 HN1 HG8; rw [List.nil_append] at HN1; obtain ⟨A8, c8, hv8, _⟩ := HN1.out.1.rd okDomino; rw [show (ys.take j).length = j by simp; omega] at hv8; subst hv8; have hb8 := HN1.out.2.1; have i1 := (hb8.cell (p := ad.add (k * 3)) HAD6.out).trans HX6.out.1; have i2 := (hb8.cell (p := ⟨(ad.add (k * 3)).block, (ad.add (k * 3)).off + 1, none⟩) HAD6.out).trans HX6.out.2.1; have i3 := (hb8.cell (p := ⟨(ad.add (k * 3)).block, (ad.add (k * 3)).off + 2, none⟩) HAD6.out).trans HX6.out.2.2; clear hb8)
                  | (at_builtin; refine wpList_push okDomino rfl _ _ rfl HN1.out rfl (x, y, d) _ rfl _ rfl rfl (by simp; omega) ?_; intro v9 w9 HN2 HG9; clear i1 i2 i3; obtain ⟨A9, c9, hv9, _⟩ := HN2.out.1.rd okDomino; rw [show (ys.take j ++ [((x, y, d) : Lk)]).length = j + 1 by simp; omega] at hv9; subst hv9; have h9 := (HR6.out.below HN2.out.2.1).drop hj; rw [if_neg hcj] at h9; have HR9 := Lib.hid h9; clear h9)
                  | (at_builtin; refine wpList_pushSrcF okDomino rfl _ _ rfl HN2.out rfl (ys.drop j) _ _ HR9.out rfl (by simp; omega) ?_; intro v10 w10 HN3 HG10; rw [← HE0.out] at HN3; have hp3 : 0 < (st (k + 1)).length := (by rw [HE0.out]; simp only [List.length_append, List.length_singleton]; omega); obtain ⟨g10, c10, hv10, _, _⟩ := World.ownsRow.form HN3.out.1 hp3; subst hv10))
                all_goals
                  have hmono := HA6.out.2.1.size
                  go_roundw
                  case rel => exact ⟨k + 1, g10, c10, by omega, by go_num, rfl, ⟨HN3.out.1.mono hmono, HA6.out.2.1.trans (HN3.out.2.1.mono hmono), Nat.le_refl _, Nat.le_trans hmono HN3.out.2.1.size⟩⟩
                  case measure => simp [intOf]; omega
            · have HJ3 : Hid (upK ys (x, y, d) (ys.length - (j + 1)) (j + 1) = q) := by unfold Hid; rw [← HJ2.out, if_pos hlt2]
              have HB4 := Lib.hid (HB.out.trans (HB3.out.mono HB.out.size))
              clear HJ2
              go_wp2_with fail
              go_roundw
              case rel => exact ⟨j + 1, by omega, by go_num, HJ3, HB4⟩
              case measure => simp [intOf]; omega
          · have htj : decide (j < ys.length) = false := by simp only [decide_eq_false_iff_not]; omega
            have HQJ : Hid (q = j) := by unfold Hid; rw [← HJ.out, show ys.length - j = 0 by omega]; rfl
            have HE0 : Hid (st (k + 1) = ys.take j ++ [(x, y, d)] ++ ys.drop j) := by
              unfold Hid; rw [HE.out, HQJ.out, htj]; simp
            go_wp2_with fail
            go_quiet (fail)
            obtain ⟨W5, HW5⟩ : ∃ W5, Hid (W5 = wr.drewN nq) := ⟨_, rfl⟩
            rw [← HW5.out]
            go_wp2_with fail
            go_quiet (fail)
            obtain ⟨W6, HW6⟩ : ∃ W6, Hid (W6 = W5.drewN nq) := ⟨_, rfl⟩
            rw [← HW6.out]
            have HBW : Hid (Below wr.heap.size wr W6) := by unfold Hid; rw [HW6.out, HW5.out]; exact (Drawn.below ⟨_, rfl⟩ _).trans ((Drawn.below ⟨_, rfl⟩ _))
            have HE9 : Hid (st (k + 1) = ys.take j ++ [(x, y, d)]) := by unfold Hid; rw [HE0.out, List.drop_of_length_le (by omega)]; simp
            have HA6 := Lib.hid (HA4.out.below HBW.out)
            have hs6 := HBW.out.size
            have HX6 : Hid (Three W6 (ad.add (k * 3)) x y d) := ⟨(HBW.out.cell (p := ad.add (k * 3)) HAD2.out).trans HX2.out.1, (HBW.out.cell (p := ⟨(ad.add (k * 3)).block, (ad.add (k * 3)).off + 1, none⟩) HAD2.out).trans HX2.out.2.1, (HBW.out.cell (p := ⟨(ad.add (k * 3)).block, (ad.add (k * 3)).off + 2, none⟩) HAD2.out).trans HX2.out.2.2⟩
            have HAD6 : Hid ((ad.add (k * 3)).block < W6.heap.size) := Nat.lt_of_lt_of_le HAD2.out hs6
            have HR6 := Lib.hid (HA6.out.1.rd okDomino)
            have HN0 : Hid (Acc elDomino W6 W6.heap.size (W6.alloc (.cells #[] 46)) (.slice (some ⟨W6.heap.size, 0, none⟩) 0 0) []) := Acc.start W6
            have HR7 : Hid (RdF elDomino (W6.alloc (.cells #[] 46)) W6.heap.size (.slice (some ⟨g, 0, none⟩) j ca) (ys.take j)) := (HR6.out.below ((Below.refl _ _).alloc (Nat.le_refl _) _)).take hj
            have hjle : (j : Int) ≤ (ys.length : Int) := by omega
            have hjc : (j : Int) ≤ (ca : Int) := by omega
            clear e1 e2 e3 hs6
            go_wp2_with (first
              | (at_builtin; refine wpList_pushSrcF okDomino rfl _ _ rfl HN0.out rfl (ys.take j) _ _ HR7.out rfl (by simp; omega) ?_; intro v8 w8 HN1 HG8; rw [List.nil_append] at HN1; obtain ⟨A8, c8, hv8, _⟩ := HN1.out.1.rd okDomino; rw [show (ys.take j).length = j by simp; omega] at hv8; subst hv8; have hb8 := HN1.out.2.1; have i1 := (hb8.cell (p := ad.add (k * 3)) HAD6.out).trans HX6.out.1; have i2 := (hb8.cell (p := ⟨(ad.add (k * 3)).block, (ad.add (k * 3)).off + 1, none⟩) HAD6.out).trans HX6.out.2.1; have i3 := (hb8.cell (p := ⟨(ad.add (k * 3)).block, (ad.add (k * 3)).off + 2, none⟩) HAD6.out).trans HX6.out.2.2; clear hb8)
              | (at_builtin; refine wpList_push okDomino rfl _ _ rfl HN1.out rfl (x, y, d) _ rfl _ rfl rfl (by simp; omega) ?_; intro v9 w9 HN2 HG9; clear i1 i2 i3; obtain ⟨A9, c9, hv9, _⟩ := HN2.out.1.rd okDomino; rw [show (ys.take j ++ [((x, y, d) : Lk)]).length = j + 1 by simp; omega] at hv9; subst hv9)
              | (at_builtin; refine wpList_pushSrcF okDomino rfl _ _ rfl HN2.out rfl [] 0 _ ?hr9 rfl (by simp; omega) ?_; (case hr9 => exact RdF.void (by omega) (by unfold maxLen; omega)); intro v10 w10 HN3 HG10; rw [List.append_nil, ← HE9.out] at HN3; have hp3 : 0 < (st (k + 1)).length := (by rw [HE9.out]; simp only [List.length_append, List.length_singleton]; omega); obtain ⟨g10, c10, hv10, _, _⟩ := World.ownsRow.form HN3.out.1 hp3; subst hv10))
            all_goals
              have hmono := HA6.out.2.1.size
              go_roundw
              case rel => exact ⟨k + 1, g10, c10, by omega, by go_num, rfl, ⟨HN3.out.1.mono hmono, HA6.out.2.1.trans (HN3.out.2.1.mono hmono), Nat.le_refl _, Nat.le_trans hmono HN3.out.2.1.size⟩⟩
              case measure => simp [intOf]; omega
    · obtain rfl : k = ls.length := by omega
      have ht : decide ((ls.length : Int) < (ls.length : Int)) = false := by simp
      go_wp2_with fail
      go_ret
      exact ⟨_, rfl, HA.out.1, HA.out.2.1⟩
end Go.Proofs.Ytehnbalbpfmijaa

namespace Go.Proofs.Ytehnbalbpfmijaa
open Go.RowKit
set_option linter.unusedVariables false

/-- What TilingOfTree returns. -/
def RetTil (w : World) (b : Bool) (xs : List Lk) (e : Ending) (w' : World) : Prop := ∃ u, e = .returned (.tuple #[u, .bool b]) ∧ OwnF elDomino w' w.heap.size u xs ∧ Below w.heap.size w w'
noncomputable def tilQ (p q : Int) (ls : List Lk) : List Lk := if treeB p q ls then tilZ p.toNat q.toNat ls else []
theorem spec_tilP {gw gh W H : Nat} {ls : List Lk} (hw1 : 1 ≤ gw) (hh1 : 1 ≤ gh) (hW : 2 * gw = W + 1) (hH : 2 * gh = H + 1) (hf : FloorOk gw gh) (ht : TreeOk gw gh ls) {T0 T1 : List (Int × Int)} {o0 o1 : List Lk}
    (s0 : SInv W H (fun c => decide (c ∈ ls.map lkC) == true) (iniZ gw gh true) T0 o0) (c0 : Closed W H (fun c => decide (c ∈ ls.map lkC) == true) T0 T0.length 0)
    (s1 : SInv W H (fun c => decide (c ∈ ls.map lkC) == false) (iniZ gw gh false) T1 o1) (c1 : Closed W H (fun c => decide (c ∈ ls.map lkC) == false) T1 T1.length 0) :
    TilP gw gh ls (sortI (o0 ++ o1) (o0 ++ o1).length) := by
  have eW : (W : Int) = 2 * (gw : Int) - 1 := by omega
  have eH : (H : Int) = 2 * (gh : Int) - 1 := by omega
  rw [eW, eH] at s0 c0 s1 c1
  obtain ⟨a1, a2, a3, _⟩ := ini_facts hw1 hh1 true
  obtain ⟨b1, b2, b3, _⟩ := ini_facts hw1 hh1 false
  obtain ⟨R0, d0, k0, r0, m0⟩ := stp_reach (r := 0) (init := isO) s0 c0 (fun c hc => a1 c hc) (fun c e hc he hi => a2 c e hc he hi) (fun v hv h1 => a3 v hv h1)
  obtain ⟨R1, d1, k1, r1, m1⟩ := stp_reach (r := 1) (init := out1 (2 * gw - 1) (2 * gh - 1)) s1 c1 (fun c hc => b1 c hc) (fun c e hc he hi => b2 c e hc he hi) (fun v hv h1 => b3 v hv h1)
  refine ⟨R0, d0, k0, R1, d1, k1, o0 ++ o1, r0.congr fun c => ?_, r1.congr fun c => ?_, fun x => ?_, rfl⟩
  · unfold has0
    constructor
    · rintro ⟨_, h⟩; simpa using h
    · intro h
      obtain ⟨l, hl, rfl⟩ := List.mem_map.1 h
      exact ⟨((hf.me _).1 (List.mem_map.2 ⟨l, ht.sb l hl, rfl⟩)).1, by simpa using h⟩
  · unfold has1
    constructor
    · rintro ⟨h1, h⟩; exact ⟨h1, by simpa using h⟩
    · rintro ⟨h1, h⟩; exact ⟨h1, by simpa using h⟩
  · rw [List.mem_append, m0, m1]; rfl

set_option maxRecDepth 100000 in
set_option maxHeartbeats 4000000 in
theorem specTil_any (p q : Int) (u : Value) (ls : List Lk) (B : Nat) (w : World) (hu : RdF elLink w B u ls) (hB : B ≤ w.heap.size) :
    Calls Try.prog 34 #[.int .i64 p, .int .i64 q, u] w (RetTil w (treeB p q ls) (tilQ p q ls)) := by
  have HU := Lib.hid hu
  obtain ⟨A, c, rfl, g1, g2, _⟩ := hu
  unfold maxLen at g2
  have HIT := Lib.hid (specIsTree_any p q _ ls B w HU.out hB)
  cases ht : treeB p q ls
  · have HQ : Hid (tilQ p q ls = []) := by unfold Hid tilQ; rw [ht]; simp
    rw [HQ.out]
    rw [ht] at HIT
    go_enter Try.func34, Try.ntmps34
    go_wp2_with fail
    refine HIT.out.mono ?_
    rintro e w1 ⟨rfl, hb1⟩
    have HB1 := Lib.hid hb1
    clear hb1
    go_wp2_with fail
    have HA0 : Acc elDomino w w.heap.size (w1.alloc (.cells #[] 46)) (.slice (some ⟨w1.heap.size, 0, none⟩) 0 0) [] := Acc.startAt HB1.out (Nat.le_refl _) HB1.out.size
    refine bodyPost_ret (v := .tuple #[.slice (some ⟨w1.heap.size, 0, none⟩) 0 0, .bool false]) (by simp [results, Try.results34, go_sem]) rfl ⟨_, rfl, HA0.1, HA0.2.1⟩
  · rw [ht] at HIT
    have hg : gridB p q = true := by
      unfold treeB at ht; simp only [Bool.and_eq_true] at ht; exact ht.1
    have hb := (gridB_iff _ _).1 hg
    obtain ⟨gw, rfl⟩ := Int.eq_ofNat_of_zero_le (show 0 ≤ p by omega)
    obtain ⟨gh, rfl⟩ := Int.eq_ofNat_of_zero_le (show 0 ≤ q by omega)
    obtain ⟨hg, hok⟩ := tree_ok ht
    have hf := floor_ok hg
    obtain ⟨W, hW⟩ : ∃ W, 2 * gw = W + 1 := ⟨2 * gw - 1, by omega⟩
    obtain ⟨H, hH⟩ : ∃ H, 2 * gh = H + 1 := ⟨2 * gh - 1, by omega⟩
    have hl : ∀ l ∈ ls, (0 ≤ l.1 ∧ l.1 ≤ 4) ∧ 0 ≤ l.2.1 ∧ l.2.1 ≤ 4 := fun l hl => by
      have := (lkIn_iff _ _ _).1 ((tree_facts gw gh hg).1 l (hok.sb l hl))
      exact ⟨⟨this.1, this.2.1⟩, this.2.2.1, this.2.2.2.1⟩
    have HS0 := Lib.hid (fun (V : World) (hV : Below w.heap.size w V) => Steps_any gw gh W H _ 0 true rfl (by omega) (by omega) hW hH rfl (.slice A ls.length c) ls hl B V (HU.out.below (hV.mono hB)) (Nat.le_trans hB hV.size))
    have HS1 := Lib.hid (fun (V : World) (hV : Below w.heap.size w V) => Steps_any gw gh W H _ 1 false rfl (by omega) (by omega) hW hH rfl (.slice A ls.length c) ls hl B V (HU.out.below (hV.mono hB)) (Nat.le_trans hB hV.size))
    have HFIN : Hid (∀ T0 T1 o0 o1, SInv W H (fun c => decide (c ∈ ls.map lkC) == true) (iniZ gw gh true) T0 o0 → Closed W H (fun c => decide (c ∈ ls.map lkC) == true) T0 T0.length 0 → SInv W H (fun c => decide (c ∈ ls.map lkC) == false) (iniZ gw gh false) T1 o1 → Closed W H (fun c => decide (c ∈ ls.map lkC) == false) T1 T1.length 0 → sortI (o0 ++ o1) (o0 ++ o1).length = tilQ gw gh ls) := by
      intro T0 T1 o0 o1 a b c d
      unfold tilQ
      rw [ht, if_pos rfl, Int.toNat_natCast, Int.toNat_natCast]
      exact tilZ_eq ht (spec_tilP (by omega) (by omega) hW hH hf hok a b c d)
    generalize tilQ gw gh ls = TQ at *
    clear ht hf hok hl hg hW hH
    go_enter Try.func34, Try.ntmps34
    go_wp2_with fail
    refine HIT.out.mono ?_
    rintro e w1 ⟨rfl, hb1⟩
    have HB1 := Lib.hid hb1
    clear hb1
    go_wp2_with fail
    refine (HS0.out w1 HB1.out).mono ?_
    rintro e w2 ⟨v2, T0, o0, rfl, ho2, s0, c0, l0, hb2⟩
    have HA2 : Hid (Acc elDomino w w.heap.size w2 v2 o0) := ⟨ho2.mono HB1.out.size, HB1.out.trans (hb2.mono HB1.out.size), Nat.le_refl _, Nat.le_trans HB1.out.size hb2.size⟩
    have HSC0 := Lib.hid (And.intro s0 c0)
    clear ho2 hb2 s0 c0
    go_wp2_with fail
    refine (HS1.out w2 HA2.out.2.1).mono ?_
    rintro e w3 ⟨v3, T1, o1, rfl, ho3, s1, c1, l1, hb3⟩
    have HA3 := Lib.hid (HA2.out.below hb3)
    have HR3 := Lib.hid (ho3.rd okDomino)
    have HSC1 := Lib.hid (And.intro s1 c1)
    have HE := Lib.hid (HFIN.out T0 T1 o0 o1 HSC0.out.1 HSC0.out.2 HSC1.out.1 HSC1.out.2)
    clear ho3 hb3 s1 c1 HA2 HSC0 HSC1 HFIN
    go_wp2_with (at_builtin; refine wpList_pushSrcF okDomino rfl _ _ rfl HA3.out rfl o1 _ _ HR3.out rfl (by omega) ?_; intro u4 w4 HA4 HG4)
    refine (specSortDominoes_any _ (o0 ++ o1) _ _ (HA4.out.1.rd okDomino) (Nat.le_refl _)).mono ?_
    rintro e w5 ⟨u5, rfl, ho5, hb5⟩
    rw [HE.out] at ho5
    have HO5 := Lib.hid (ho5.mono HA4.out.2.1.size)
    have HB5 := Lib.hid (HA4.out.2.1.trans (hb5.mono HA4.out.2.1.size))
    clear ho5 hb5
    go_wp2_with fail
    refine bodyPost_ret (v := .tuple #[u5, .bool true]) (by simp [results, Try.results34, go_sem]) rfl ⟨_, rfl, HO5.out, HB5.out⟩
end Go.Proofs.Ytehnbalbpfmijaa

namespace Go.Proofs.Ytehnbalbpfmijaa
open Go.RowKit
set_option linter.unusedVariables false

/-- Whether domino k of the list lies over a cell. -/
def ovC (ls : List Lk) (x y : Int) (k : Nat) : Bool := (lx ls k == x && ly ls k == y) || (sndX (lx ls k) (ld ls k) == x && sndY (ly ls k) (ld ls k) == y)
theorem eqlC (a b x y : Int) (W : World) : Sem.run Try.prog (binOp .eql 44 (.agg #[.int .i64 a, .int .i64 b]) (.agg #[.int .i64 x, .int .i64 y])) W = .ok (.bool (a == x && b == y)) W := by
  by_cases h1 : a = x
  · by_cases h2 : b = y
    · subst h1; subst h2
      rw [show (a == a && b == b) = true by simp]
      go_simp
    · rw [show (a == x && b == y) = false by simp [h2]]
      go_simp
  · rw [show (a == x && b == y) = false by simp [h1]]
    go_simp
theorem eqlC' {a b x y : Int} {r : Bool} (h : (a == x && b == y) = r) : ∀ W : World, Sem.run Try.prog (binOp .eql 44 (.agg #[.int .i64 a, .int .i64 b]) (.agg #[.int .i64 x, .int .i64 y])) W = .ok (.bool r) W := fun W => by rw [← h]; exact eqlC a b x y W

set_option maxRecDepth 100000 in
set_option maxHeartbeats 4000000 in
theorem DominoAt_yes (v : Value) (ls : List Lk) (x y : Int) (B : Nat) (w : World) (h : RdF elDomino w B v ls) (hB : B ≤ w.heap.size) (hd : ∀ k, k < ls.length → domB (lx ls k) (ly ls k) (ld ls k) = true) :
    Calls Try.prog 108 #[v, spotV x y] w fun e w' => e = .returned (.int .i64 (fstZ (ovC ls x y) ls.length 0)) ∧ Below w.heap.size w w' := by
  obtain ⟨A, c, rfl, g1, g2, G3⟩ := RdT.of (E := elDomino) rfl (fun _ => rfl) h
  unfold maxLen at g2
  have HD := Lib.hid hd
  clear h hd
  go_enter Try.func108, Try.ntmps108
  go_wp2_with fail
  obtain ⟨W, hW, k0, hb0⟩ := one_alloc w (.cells #[.int .i64 x, .int .i64 y] 44)
  rw [← hW]
  have HK := Lib.hid k0
  have HB0 := Lib.hid hb0
  have hs0 : w.heap.size < W.heap.size := lt_of_block k0
  clear hW k0 hb0
  go_loopw [5] (fun s wr => ∃ k : Nat, k ≤ ls.length ∧ s = .int .i64 k ∧ Hid (Below W.heap.size W wr) ∧ Hid (fstZ (ovC ls x y) ls.length 0 = fstZ (ovC ls x y) (ls.length - k) k)) (fun s _ => ls.length - (intOf s).toNat)
  case atStart => exact ⟨0, Nat.zero_le _, rfl, Below.refl _ _, rfl⟩
  case round =>
    obtain ⟨k, hk, rfl, HB, HF⟩ := hrel
    by_cases hlt : k < ls.length
    · obtain ⟨ad, rfl, had, hx, hy, hz⟩ := G3.out k hlt
      have hbw := HB0.out.trans (HB.out.mono HB0.out.size)
      have hdk := HD.out k hlt
      have ht : decide ((k : Int) < (ls.length : Int)) = true := by simp only [decide_eq_true_eq]; omega
      have hk0 : (0 : Int) ≤ (k : Int) := by omega
      have hk1 : (k : Int) < (ls.length : Int) := by omega
      have hL1 : (ad.add (k * 3)).block < w.heap.size := by rw [addBlock]; omega
      have HS : Hid (fstZ (ovC ls x y) (ls.length - k) k = if ovC ls x y k then (k : Int) else fstZ (ovC ls x y) (ls.length - (k + 1)) (k + 1)) := by
        unfold Hid; rw [show ls.length - k = (ls.length - (k + 1)) + 1 by omega, fstZ]
      have HE : Hid (ovC ls x y k = ((lx ls k == x && ly ls k == y) || (sndX (lx ls k) (ld ls k) == x && sndY (ly ls k) (ld ls k) == y))) := rfl
      generalize ovC ls x y k = r at *
      generalize lx ls k = p1 at *
      generalize ly ls k = p2 at *
      generalize ld ls k = p3 at *
      have hx1 := (hbw.cell (p := ad.add (k * 3)) hL1).trans hx
      have hy1 := (hbw.cell (p := ⟨(ad.add (k * 3)).block, (ad.add (k * 3)).off + 1, none⟩) hL1).trans hy
      have hz1 := (hbw.cell (p := ⟨(ad.add (k * 3)).block, (ad.add (k * 3)).off + 2, none⟩) hL1).trans hz
      have HQ := Lib.hid hbw
      have HLL := Lib.hid hL1
      have HXC := Lib.hid (And.intro hx (And.intro hy hz))
      clear hbw hx hy hz hL1
      have HDK := Lib.hid hdk
      clear hdk
      go_wp2_with fail
      refine (specDominoOk_any _ _ _ _).mono ?_
      rintro e w1 ⟨rfl, hb1⟩
      rw [HDK.out]
      have HB1 := Lib.hid (HB.out.trans (hb1.mono HB.out.size))
      have HQ1 := Lib.hid (HQ.out.trans (hb1.mono HQ.out.size))
      have hx2 := (HQ1.out.cell (p := ad.add (k * 3)) HLL.out).trans HXC.out.1
      have hy2 := (HQ1.out.cell (p := ⟨(ad.add (k * 3)).block, (ad.add (k * 3)).off + 1, none⟩) HLL.out).trans HXC.out.2.1
      have hz2 := (HQ1.out.cell (p := ⟨(ad.add (k * 3)).block, (ad.add (k * 3)).off + 2, none⟩) HLL.out).trans HXC.out.2.2
      clear hb1 hx1 hy1 hz1
      go_wp2_with fail
      refine (CellsUnder_yes _ _ _ _ HDK.out).mono ?_
      rintro e w2 ⟨rfl, hb2⟩
      have HB2 := Lib.hid (HB1.out.trans (hb2.mono HB1.out.size))
      have HQ2 := Lib.hid (HQ1.out.trans (hb2.mono HQ1.out.size))
      clear hb2 hx2 hy2 hz2
      generalize sndX p1 p3 = q1 at *
      generalize sndY p2 p3 = q2 at *
      go_upto_region 6 with (fail)
      obtain ⟨V, hV, j0, j1, hbV⟩ := two_alloc w2 (.cells #[.int .i64 p1, .int .i64 p2] 44) (.cells #[.int .i64 q1, .int .i64 q2] 44)
      rw [← hV]
      have HB3 := Lib.hid (HB2.out.trans (hbV.mono HB2.out.size))
      have HQ3 := Lib.hid (HQ2.out.trans (hbV.mono HQ2.out.size))
      have j2 := (HB3.out.block w.heap.size hs0).trans HK.out
      have a0 : V.cell? ⟨w2.heap.size, 0, none⟩ = some (.int .i64 p1) := by rw [blk_cell j0]; rfl
      have a1 : V.cell? ⟨w2.heap.size, 1, none⟩ = some (.int .i64 p2) := by rw [blk_cell j0]; rfl
      have a2 : V.cell? ⟨w2.heap.size + 1, 0, none⟩ = some (.int .i64 q1) := by rw [blk_cell j1]; rfl
      have a3 : V.cell? ⟨w2.heap.size + 1, 1, none⟩ = some (.int .i64 q2) := by rw [blk_cell j1]; rfl
      have a4 : V.cell? ⟨w.heap.size, 0, none⟩ = some (.int .i64 x) := by rw [blk_cell j2]; rfl
      have a5 : V.cell? ⟨w.heap.size, 1, none⟩ = some (.int .i64 y) := by rw [blk_cell j2]; rfl
      clear hV j0 j1 j2 hbV
      generalize hr1 : (p1 == x && p2 == y) = r1 at *
      generalize hr2 : (q1 == x && q2 == y) = r2 at *
      have hq1 := eqlC' hr1
      have hq2 := eqlC' hr2
      clear hr1 hr2
      cases r1 <;> cases r2
      case false.false =>
        have HS2 : Hid (fstZ (ovC ls x y) ls.length 0 = fstZ (ovC ls x y) (ls.length - (k + 1)) (k + 1)) := HF.out.trans (by rw [HS.out, HE.out]; rfl)
        clear HS HF HE
        go_wp2_with fail
        go_roundw
        case rel => exact ⟨k + 1, by omega, by go_num, HB3, HS2⟩
        case measure => simp [intOf]; omega
      all_goals
        have HS2 : Hid (fstZ (ovC ls x y) ls.length 0 = (k : Int)) := HF.out.trans (by rw [HS.out, HE.out]; rfl)
        clear HS HF HE
        go_wp2_with fail
        go_ret
        exact ⟨ret_int HS2.out.symm, HQ3.out⟩
    · have HF2 : Hid (fstZ (ovC ls x y) ls.length 0 = -1) := by unfold Hid; rw [HF.out, show ls.length - k = 0 by omega]; rfl
      have ht : decide ((k : Int) < (ls.length : Int)) = false := by simp only [decide_eq_false_iff_not]; omega
      go_wp2_with fail
      go_ret
      exact ⟨ret_int HF2.out.symm, HB0.out.trans (HB.out.mono HB0.out.size)⟩
end Go.Proofs.Ytehnbalbpfmijaa

namespace Go.Proofs.Ytehnbalbpfmijaa
open Go.RowKit
set_option linter.unusedVariables false

noncomputable def totB (p q : Int) (L : List Lk) : Bool := gridB p q && (treeB p q (toT p q L) && decide (tilQ p q (toT p q L) = L))
noncomputable def totZ (p q : Int) (L : List Lk) : List Lk := if totB p q L then toT p q L else []
def RetTot (w : World) (b : Bool) (xs : List Lk) (e : Ending) (w' : World) : Prop := ∃ u, e = .returned (.tuple #[u, .bool b]) ∧ OwnF elLink w' w.heap.size u xs ∧ Below w.heap.size w w'
theorem tot_grid {p q : Int} {L : List Lk} (h : gridB p q = false) : totB p q L = false := by simp [totB, h]
theorem tilQ_nat {w h : Nat} {ls : List Lk} (ht : treeB w h ls = true) : tilQ w h ls = tilZ w h ls := by
  unfold tilQ; rw [ht, if_pos rfl, Int.toNat_natCast, Int.toNat_natCast]
/-- What is no tiling has no tree. -/
theorem tot_no {p q : Int} {L : List Lk} (h : sTileB (setZ (floorZ p q)) L = false) : totB p q L = false := by
  cases hb : totB p q L
  · rfl
  · unfold totB at hb
    simp only [Bool.and_eq_true, decide_eq_true_eq] at hb
    obtain ⟨hg, ht, he⟩ := hb
    have hb := (gridB_iff _ _).1 hg
    obtain ⟨n, rfl⟩ := Int.eq_ofNat_of_zero_le (show 0 ≤ p by omega)
    obtain ⟨m, rfl⟩ := Int.eq_ofNat_of_zero_le (show 0 ≤ q by omega)
    have h1 := tilZ_til ht
    rw [← tilQ_nat ht, he] at h1
    rw [til_of h1] at h
    exact h
theorem flR_tab : ((List.range 5).all fun x => (List.range 5).all fun y => !gridB x y || regOkB (floorZ x y)) = true := by decide +kernel
theorem flR_ok {a b : Int} (hg : gridB a b = true) : regOkB (floorZ a b) = true := by
  have hb := (gridB_iff _ _).1 hg
  obtain ⟨n, rfl⟩ := Int.eq_ofNat_of_zero_le (show 0 ≤ a by omega)
  obtain ⟨m, rfl⟩ := Int.eq_ofNat_of_zero_le (show 0 ≤ b by omega)
  have h := all2 flR_tab n m (by omega) (by omega)
  rw [hg] at h
  simpa using h
theorem filter_take {α : Type} (p : α → Bool) (ls : List α) (k : Nat) (h : k < ls.length) : (ls.take (k + 1)).filter p = (ls.take k).filter p ++ if p ls[k] then [ls[k]] else [] := by
  rw [List.take_succ_eq_append_getElem h, List.filter_append]
  cases hp : p ls[k] <;> simp [hp]
/-- A list of structs of three fields that stays readable while another one grows. -/
structure KeepT (wr : World) (A : Option Addr) (ls : List Lk) (v : Value) : Prop where
  cl : ∀ k, k < ls.length → ∃ ad, A = some ad ∧ ad.block < wr.heap.size ∧ v.ownBlock ≠ some ad.block ∧ wr.cell? (ad.add (k * 3)) = some (.int .i64 (lx ls k)) ∧
      wr.cell? ⟨(ad.add (k * 3)).block, (ad.add (k * 3)).off + 1, none⟩ = some (.int .i64 (ly ls k)) ∧ wr.cell? ⟨(ad.add (k * 3)).block, (ad.add (k * 3)).off + 2, none⟩ = some (.bool (ld ls k))
theorem KeepT.below {wr w1 : World} {A : Option Addr} {ls : List Lk} {v : Value} (h : KeepT wr A ls v) (hb : Below wr.heap.size wr w1) : KeepT w1 A ls v := ⟨fun k hk => by
  obtain ⟨ad, e, h1, h2, h3, h4, h5⟩ := h.cl k hk
  have hl : (ad.add (k * 3)).block < wr.heap.size := by rw [addBlock]; exact h1
  exact ⟨ad, e, Nat.lt_of_lt_of_le h1 hb.size, h2, (hb.cell hl).trans h3, (hb.cell (p := ⟨(ad.add (k * 3)).block, (ad.add (k * 3)).off + 1, none⟩) hl).trans h4, (hb.cell (p := ⟨(ad.add (k * 3)).block, (ad.add (k * 3)).off + 2, none⟩) hl).trans h5⟩⟩
theorem cellBk {w w1 : World} {p : Addr} {b : Nat} (hp : p.block = b) (h : w1.heap[b]? = w.heap[b]?) : w1.cell? p = w.cell? p := by
  subst hp
  unfold World.cell?
  rw [h]
theorem KeepT.grew {wr w1 : World} {A : Option Addr} {ls : List Lk} {v v' : Value} (h : KeepT wr A ls v) (hG : Grew wr w1 v v') : KeepT w1 A ls v' := ⟨fun k hk => by
  obtain ⟨g1, g, g2, g3, g4⟩ := hG
  obtain ⟨ad, e, h1, h2, h3, h4, h5⟩ := h.cl k hk
  have hb := g1.block ad.block h1 (fun q => h2 q.symm)
  have hl : (ad.add (k * 3)).block = ad.block := addBlock _ _
  refine ⟨ad, e, Nat.lt_of_lt_of_le h1 g1.size, fun q => ?_, (cellBk hl hb).trans h3, (cellBk (p := ⟨(ad.add (k * 3)).block, (ad.add (k * 3)).off + 1, none⟩) hl hb).trans h4, (cellBk (p := ⟨(ad.add (k * 3)).block, (ad.add (k * 3)).off + 2, none⟩) hl hb).trans h5⟩
  rw [g2] at q
  obtain rfl := Option.some.inj q
  rcases g3 with g3 | g3
  · exact h2 g3
  · omega⟩
/-- The same for what was there before the call. -/
theorem KeepT.of {w : World} {lo : Nat} {n c : Nat} {A : Option Addr} {ls : List Lk} {v : Value} (hr : RdF elLink w w.heap.size (.slice A n c) ls) (ho : ∀ g, (Value.slice A n c).ownBlock = some g → lo ≤ g) (hv : ∀ g, v.ownBlock = some g → g < lo) : KeepT w A ls v := ⟨fun k hk => by
  obtain ⟨A', c', e, _, _, G⟩ := RdT.of (E := elLink) rfl (fun _ => rfl) hr
  simp only [Value.slice.injEq] at e
  obtain ⟨rfl, _, _⟩ := e
  obtain ⟨ad, ea, h1, h2, h3, h4⟩ := G.out k hk
  subst ea
  exact ⟨ad, rfl, h1, fun q => by have := ho ad.block rfl; have := hv _ q; omega, h2, h3, h4⟩⟩
end Go.Proofs.Ytehnbalbpfmijaa

namespace Go.Proofs.Ytehnbalbpfmijaa
open Go.RowKit
set_option linter.unusedVariables false

theorem set2_keep {wc : World} {n : Nat} {u v : Value} {p : Addr} (hp : p.block ≠ n) : ((wc.setCell ⟨n, 0, none⟩ u).setCell ⟨n, 1, none⟩ v).drew.cell? p = wc.cell? p :=
  cellBk (b := p.block) rfl (show ((wc.setCell ⟨n, 0, none⟩ u).setCell ⟨n, 1, none⟩ v).heap[p.block]? = _ from (Below.heap_setCell _ _ _ _ hp).trans (Below.heap_setCell _ _ _ _ hp))
/-- Two cells of one block of its own are written. -/
structure Set2 (wc V : World) (n : Nat) (x y : Int) : Prop where
  new : V.heap[n]? = some (.cells #[.int .i64 x, .int .i64 y] 44)
  old : ∀ k, k ≠ n → V.heap[k]? = wc.heap[k]?
  gr : wc.grownBy V (some n)
theorem set2_of {wc : World} {n : Nat} {x0 y0 x y : Int} (h : wc.heap[n]? = some (.cells #[.int .i64 x0, .int .i64 y0] 44)) : Set2 wc ((wc.setCell ⟨n, 0, none⟩ (.int .i64 x)).setCell ⟨n, 1, none⟩ (.int .i64 y)).drew n x y :=
  ⟨(blk_setCell (blk_setCell h _) _).trans rfl, fun k hk => show ((wc.setCell ⟨n, 0, none⟩ (.int .i64 x)).setCell ⟨n, 1, none⟩ (.int .i64 y)).heap[k]? = _ from (Below.heap_setCell _ _ _ _ hk).trans (Below.heap_setCell _ _ _ _ hk),
    rfl, rfl, rfl, by simp, fun j _ hj => show ((wc.setCell ⟨n, 0, none⟩ (.int .i64 x)).setCell ⟨n, 1, none⟩ (.int .i64 y)).heap[j]? = _ from (Below.heap_setCell _ _ _ _ (fun e => hj (by rw [e]))).trans (Below.heap_setCell _ _ _ _ (fun e => hj (by rw [e])))⟩
theorem Set2.keepT {wc V : World} {n : Nat} {x y : Int} (s : Set2 wc V n x y) {A : Option Addr} {ls : List Lk} {v : Value} (h : KeepT wc A ls v) (hn : ∀ ad, A = some ad → ad.block ≠ n) : KeepT V A ls v := ⟨fun k hk => by
  obtain ⟨ad, e, h1, h2, h3, h4, h5⟩ := h.cl k hk
  have hb := s.old ad.block (hn ad e)
  have hl : (ad.add (k * 3)).block = ad.block := addBlock _ _
  exact ⟨ad, e, Nat.lt_of_lt_of_le h1 s.gr.size, h2, (cellBk hl hb).trans h3, (cellBk (p := ⟨(ad.add (k * 3)).block, (ad.add (k * 3)).off + 1, none⟩) hl hb).trans h4, (cellBk (p := ⟨(ad.add (k * 3)).block, (ad.add (k * 3)).off + 2, none⟩) hl hb).trans h5⟩⟩
theorem Set2.acc {wc V : World} {n : Nat} {x y : Int} (s : Set2 wc V n x y) {w : World} {lo : Nat} {v : Value} {xs : List Lk} (h : Acc elLink w lo wc v xs) (hn : ∀ g, v.ownBlock = some g → g ≠ n) (hw : w.heap.size ≤ n) : Acc elLink w lo V v xs :=
  ⟨h.1.same fun k hk => s.old k (hn k hk), h.2.1.grown s.gr h.2.1.size (fun k hk => by simp only [Option.some.injEq] at hk; omega), h.2.2.1, Nat.le_trans h.2.2.2 s.gr.size⟩
theorem set2_bare {wc : World} {n : Nat} {x0 y0 x y : Int} (h : wc.heap[n]? = some (.cells #[.int .i64 x0, .int .i64 y0] 44)) : Set2 wc ((wc.setCell ⟨n, 0, none⟩ (.int .i64 x)).setCell ⟨n, 1, none⟩ (.int .i64 y)) n x y :=
  ⟨(blk_setCell (blk_setCell h _) _).trans rfl, fun k hk => (Below.heap_setCell _ _ _ _ hk).trans (Below.heap_setCell _ _ _ _ hk),
    rfl, rfl, rfl, by simp, fun j _ hj => (Below.heap_setCell _ _ _ _ (fun e => hj (by rw [e]))).trans (Below.heap_setCell _ _ _ _ (fun e => hj (by rw [e])))⟩
theorem setO {w : World} {n k : Nat} {u : Value} {p : Addr} (hp : p.block ≠ n) : (w.setCell ⟨n, k, none⟩ u).cell? p = w.cell? p := cellBk (b := p.block) rfl (Below.heap_setCell _ _ _ _ hp)
theorem drewC {w : World} {p : Addr} : w.drew.cell? p = w.cell? p := rfl
end Go.Proofs.Ytehnbalbpfmijaa

namespace Go.Proofs.Ytehnbalbpfmijaa
open Go.RowKit

/-- Behind k rounds of the reference: block H holds the result's nil, block H + 1 the value of the row. -/
def FloorS (w wr : World) (v : Value) (zs : List Int) : Prop :=
  wr.rowIs w.heap.size 39 1 (fun _ => .slice none 0 0) ∧ wr.rowIs (w.heap.size + 1) 39 1 (fun _ => v) ∧ OwnI wr (w.heap.size + 2) v zs ∧ w.heap.size + 2 ≤ wr.heap.size ∧ Below w.heap.size w wr
theorem FloorS.step {w wr w1 : World} {v : Value} {zs : List Int} {c : Int} {g cap : Nat} (h : FloorS w wr v zs)
    (hown : w1.ownsRow (w.heap.size + 2) 3 1 (.slice (some ⟨g, 0, none⟩) (zs.length + 1) cap) (zs.length + 1) (zs.map (Value.int .i64) ++ [.int .i64 c]))
    (hg : (wr.alloc (.cells #[.int .i64 c] 3)).grownBy w1 v.ownBlock) :
    FloorS w (w1.setCell ⟨w.heap.size + 1, 0, none⟩ (.slice (some ⟨g, 0, none⟩) (zs.length + 1) cap)) (.slice (some ⟨g, 0, none⟩) (zs.length + 1) cap) (zs ++ [c]) ∧
      w1.cell? ⟨w.heap.size + 1, 0, none⟩ = some v ∧ w1.frozen? ⟨w.heap.size + 1, 0, none⟩ = false := by
  obtain ⟨h1, h2, h3, h5, h6⟩ := h
  have hsz : wr.heap.size + 1 ≤ w1.heap.size := by simpa using hg.size
  have hgl := (World.ownsRow.lt hown g rfl).1
  have hlow : ∀ k, v.ownBlock = some k → w.heap.size + 2 ≤ k := fun k hk => (h3.lt k hk).1
  have hb0 : w1.heap[w.heap.size]? = wr.heap[w.heap.size]? :=
    (hg.block _ (by simp; omega) (fun e => by have := hlow _ e.symm; omega)).trans (Below.heap_alloc _ _ _ (by omega))
  have hb2 : w1.heap[w.heap.size + 1]? = wr.heap[w.heap.size + 1]? :=
    (hg.block _ (by simp; omega) (fun e => by have := hlow _ e.symm; omega)).trans (Below.heap_alloc _ _ _ (by omega))
  refine ⟨⟨(h1.of_block hb0).setOther (by simp) _, ((h2.of_block hb2).set 0 _).congr fun i hi => by simp [show i = 0 by omega], ?_, by simp; omega, ?_⟩, (h2.of_block hb2).cell (by omega), (h2.of_block hb2).frozen 0⟩
  · have e : (zs ++ [c]).length = zs.length + 1 := by simp
    have e2 : (zs ++ [c]).map (Value.int .i64) = zs.map (Value.int .i64) ++ [.int .i64 c] := by simp
    unfold OwnI
    rw [e, e2]
    exact Go.ownsRow_setCell_other hown (by simp [Value.ownBlock]; omega) _
  · exact ((h6.alloc (by omega) _).grown hg (by simp; omega) (fun k hk => by have := hlow k hk; omega)).setCell (by simp) _

theorem floor_take0 (c : Int) (n : Nat) (zs : List Int) (hz : zs = (floorRows c n).take zs.length) (h : zs.length = 0) : zs ++ [c - 1] = (floorRows c n).take (zs ++ [c - 1]).length := by
  have e : zs = [] := List.eq_nil_of_length_eq_zero h
  subst e; rfl
theorem floor_take1 (c : Int) (n : Nat) (zs : List Int) (hz : zs = (floorRows c n).take zs.length) (h : 0 < zs.length) (hl : zs.length < 2 * n - 1) : zs ++ [c] = (floorRows c n).take (zs ++ [c]).length := by
  obtain ⟨m, hm⟩ : ∃ m, zs.length = m + 1 := ⟨zs.length - 1, by omega⟩
  have hlen : m + 1 < (floorRows c n).length := by simp [floorRows]; omega
  rw [hm] at hz
  rw [List.length_append, List.length_singleton, hm, List.take_succ_eq_append_getElem hlen]
  exact congr (congrArg _ hz) (by simp [floorRows])
theorem floorS_start (w : World) : FloorS w ((w.alloc (.cells #[.slice none 0 0] 39)).alloc (.cells #[.slice none 0 0] 39)) (.slice none 0 0) [] := by
  have a1 := row_one w (.slice none 0 0) 39
  have a3 := row_one (w.alloc (.cells #[.slice none 0 0] 39)) (.slice none 0 0) 39
  exact ⟨a1.alloc _, by simpa using a3, World.ownsRow_nil _ _ _ _, by simp, ((Below.refl _ _).alloc (Nat.le_refl _) _).alloc (by simp) _⟩
theorem floorS_end {w wr : World} {v : Value} {zs : List Int} (h : FloorS w wr v zs) :
    RetFloor w zs (.returned (.agg #[v])) (wr.setCell ⟨w.heap.size, 0, none⟩ v) ∧ (wr.setCell ⟨w.heap.size, 0, none⟩ v).cell? ⟨w.heap.size, 0, none⟩ = some v := by
  obtain ⟨h1, h2, h3, h5, h6⟩ := h
  have h4 := (h1.set 0 v).cell (i := 0) (by omega)
  refine ⟨⟨v, rfl, OwnI.mono0 (Go.ownsRow_setCell_other h3 (a := ⟨w.heap.size, 0, none⟩) (fun e => by have := (h3.lt _ e).1; simp at this; omega) v) (by omega), h6.setCell (Nat.le_refl _) _⟩, by simpa using h4⟩

set_option maxRecDepth 100000 in
set_option maxHeartbeats 2000000 in
theorem specTreeFloor_at1 (n : Nat) (h1 : 1 ≤ n) (h4 : n ≤ 4) (w : World) :
    Calls Try.prog 106 #[.int .i64 1, .int .i64 n] w (RetFloor w (floorRows 1 n)) := by
  obtain ⟨i0, hi0, hz0, hz1, hz2⟩ := info_parts infoInt
  have hg : gridB 1 n = true := by
    simp only [gridB, Bool.and_eq_true, inB_iff]; omega
  go_enter Try.func106, Try.ntmps106
  go_wp2_with fail
  go_loopw [6] (fun s wr => ∃ (v : Value) (zs : List Int), zs.length ≤ 2 * n - 1 ∧ s = .int .i64 (zs.length : Int) ∧ FloorS w wr v zs ∧ Hid (zs = (floorRows 1 n).take zs.length)) (fun s _ => 2 * n - 1 - (intOf s).toNat)
  case atStart => exact ⟨.slice none 0 0, [], by simp, rfl, floorS_start w, rfl⟩
  case round =>
    obtain ⟨v, zs, hk, rfl, hr, HZ⟩ := hrel
    by_cases hlt : zs.length < 2 * n - 1
    · obtain ⟨r1, r2, r3, r5, r6⟩ := id hr
      have hc : wr.cell? ⟨w.heap.size + 1, 0, none⟩ = some v := r2.cell (by omega)
      have HR := Lib.hid hr
      have R3 := Lib.hid r3
      clear r1 r2 r3 hr
      by_cases h0 : zs.length = 0
      · have h0' : ((zs.length : Int) == 0) = true := by simp [h0]
        have HN := Lib.hid (floor_take0 1 n zs HZ.out h0); clear h0
        go_wp2_with fail
        refine (specGridOk_any _ _ _).mono ?_
        rintro e w1 ⟨rfl, rfl⟩
        go_wp2_with (at_builtin; refine wpList_append_lies _ rfl (.tmp 31) (.tmp 33) _ rfl (w.heap.size + 2) 3 i0 _ 1 8 Try.underlying31 hi0 hz0 hz1 hz2 rfl (by omega) v zs.length _ rfl (World.ownsRow.alloc R3.out _) ⟨wr.heap.size, 0, none⟩ 1 1 [.int .i64 0] rfl rfl (World.news_of_block (cs := #[.int .i64 0]) (t := 3) (fr := (0, 0)) (heap_alloc_new wr _)) (by simp [Value.oneCell']) (by omega) (by unfold maxLen; omega) (by omega) (by simp; omega) (wr.heap.size + 1) (by simp) ?_; intro gg cap w1 hown1 hgrow hat hlt1; obtain ⟨hs1, hs2, hs3⟩ := FloorS.step HR.out hown1 hgrow; have HS1 := Lib.hid hs1; clear hs1)
        go_roundw
        case rel => exact ⟨_, zs ++ [1 - 1], by simp; omega, by simp, HS1.out, HN⟩
        case measure => simp [intOf]; omega
      · have h0' : ((zs.length : Int) == 0) = false := by rw [beq_eq_false_iff_ne]; omega
        have HN := Lib.hid (floor_take1 1 n zs HZ.out (by omega) hlt); clear h0
        go_wp2_with fail
        refine (specGridOk_any _ _ _).mono ?_
        rintro e w1 ⟨rfl, rfl⟩
        go_wp2_with (at_builtin; refine wpList_append_lies _ rfl (.tmp 31) (.tmp 33) _ rfl (w.heap.size + 2) 3 i0 _ 1 8 Try.underlying31 hi0 hz0 hz1 hz2 rfl (by omega) v zs.length _ rfl (World.ownsRow.alloc R3.out _) ⟨wr.heap.size, 0, none⟩ 1 1 [.int .i64 1] rfl rfl (World.news_of_block (cs := #[.int .i64 1]) (t := 3) (fr := (0, 0)) (heap_alloc_new wr _)) (by simp [Value.oneCell']) (by omega) (by unfold maxLen; omega) (by omega) (by simp; omega) (wr.heap.size + 1) (by simp) ?_; intro gg cap w1 hown1 hgrow hat hlt1; obtain ⟨hs1, hs2, hs3⟩ := FloorS.step HR.out hown1 hgrow; have HS1 := Lib.hid hs1; clear hs1)
        go_roundw
        case rel => exact ⟨_, zs ++ [1], by simp; omega, by simp, HS1.out, HN⟩
        case measure => simp [intOf]; omega
    · obtain ⟨r1, r2, r3, r5, r6⟩ := id hr
      have hc : wr.cell? ⟨w.heap.size + 1, 0, none⟩ = some v := r2.cell (by omega)
      have hc0 := r1.cell (i := 0) (by omega)
      have hf0 := r1.frozen 0
      obtain ⟨A, cp, hv, _⟩ := r3.rd
      obtain ⟨hE, hR⟩ := floorS_end hr
      have HE : Hid (zs = floorRows 1 n) := by
        unfold Hid; rw [HZ.out, List.take_of_length_le]; simp [floorRows]; omega
      rw [HE.out] at hE
      have HEE := Lib.hid hE; have HRR := Lib.hid hR
      clear r1 r2 r3 hr hE hR
      subst hv
      go_wp2_with fail
      refine (specGridOk_any _ _ _).mono ?_
      rintro e w1 ⟨rfl, rfl⟩
      go_wp2_with fail
      refine bodyPost_ret (v := .agg #[.slice A zs.length cp]) (by have hR' := HRR.out; simp [results, Try.results106, go_sem, hR']) rfl ?_
      exact HEE.out
set_option maxRecDepth 100000 in
set_option maxHeartbeats 2000000 in
theorem specTreeFloor_at2 (n : Nat) (h1 : 1 ≤ n) (h4 : n ≤ 4) (w : World) :
    Calls Try.prog 106 #[.int .i64 2, .int .i64 n] w (RetFloor w (floorRows 7 n)) := by
  obtain ⟨i0, hi0, hz0, hz1, hz2⟩ := info_parts infoInt
  have hg : gridB 2 n = true := by
    simp only [gridB, Bool.and_eq_true, inB_iff]; omega
  go_enter Try.func106, Try.ntmps106
  go_wp2_with fail
  go_loopw [6] (fun s wr => ∃ (v : Value) (zs : List Int), zs.length ≤ 2 * n - 1 ∧ s = .int .i64 (zs.length : Int) ∧ FloorS w wr v zs ∧ Hid (zs = (floorRows 7 n).take zs.length)) (fun s _ => 2 * n - 1 - (intOf s).toNat)
  case atStart => exact ⟨.slice none 0 0, [], by simp, rfl, floorS_start w, rfl⟩
  case round =>
    obtain ⟨v, zs, hk, rfl, hr, HZ⟩ := hrel
    by_cases hlt : zs.length < 2 * n - 1
    · obtain ⟨r1, r2, r3, r5, r6⟩ := id hr
      have hc : wr.cell? ⟨w.heap.size + 1, 0, none⟩ = some v := r2.cell (by omega)
      have HR := Lib.hid hr
      have R3 := Lib.hid r3
      clear r1 r2 r3 hr
      by_cases h0 : zs.length = 0
      · have h0' : ((zs.length : Int) == 0) = true := by simp [h0]
        have HN := Lib.hid (floor_take0 7 n zs HZ.out h0); clear h0
        go_wp2_with fail
        refine (specGridOk_any _ _ _).mono ?_
        rintro e w1 ⟨rfl, rfl⟩
        go_wp2_with (at_builtin; refine wpList_append_lies _ rfl (.tmp 31) (.tmp 33) _ rfl (w.heap.size + 2) 3 i0 _ 1 8 Try.underlying31 hi0 hz0 hz1 hz2 rfl (by omega) v zs.length _ rfl (World.ownsRow.alloc R3.out _) ⟨wr.heap.size, 0, none⟩ 1 1 [.int .i64 6] rfl rfl (World.news_of_block (cs := #[.int .i64 6]) (t := 3) (fr := (0, 0)) (heap_alloc_new wr _)) (by simp [Value.oneCell']) (by omega) (by unfold maxLen; omega) (by omega) (by simp; omega) (wr.heap.size + 1) (by simp) ?_; intro gg cap w1 hown1 hgrow hat hlt1; obtain ⟨hs1, hs2, hs3⟩ := FloorS.step HR.out hown1 hgrow; have HS1 := Lib.hid hs1; clear hs1)
        go_roundw
        case rel => exact ⟨_, zs ++ [7 - 1], by simp; omega, by simp, HS1.out, HN⟩
        case measure => simp [intOf]; omega
      · have h0' : ((zs.length : Int) == 0) = false := by rw [beq_eq_false_iff_ne]; omega
        have HN := Lib.hid (floor_take1 7 n zs HZ.out (by omega) hlt); clear h0
        go_wp2_with fail
        refine (specGridOk_any _ _ _).mono ?_
        rintro e w1 ⟨rfl, rfl⟩
        go_wp2_with (at_builtin; refine wpList_append_lies _ rfl (.tmp 31) (.tmp 33) _ rfl (w.heap.size + 2) 3 i0 _ 1 8 Try.underlying31 hi0 hz0 hz1 hz2 rfl (by omega) v zs.length _ rfl (World.ownsRow.alloc R3.out _) ⟨wr.heap.size, 0, none⟩ 1 1 [.int .i64 7] rfl rfl (World.news_of_block (cs := #[.int .i64 7]) (t := 3) (fr := (0, 0)) (heap_alloc_new wr _)) (by simp [Value.oneCell']) (by omega) (by unfold maxLen; omega) (by omega) (by simp; omega) (wr.heap.size + 1) (by simp) ?_; intro gg cap w1 hown1 hgrow hat hlt1; obtain ⟨hs1, hs2, hs3⟩ := FloorS.step HR.out hown1 hgrow; have HS1 := Lib.hid hs1; clear hs1)
        go_roundw
        case rel => exact ⟨_, zs ++ [7], by simp; omega, by simp, HS1.out, HN⟩
        case measure => simp [intOf]; omega
    · obtain ⟨r1, r2, r3, r5, r6⟩ := id hr
      have hc : wr.cell? ⟨w.heap.size + 1, 0, none⟩ = some v := r2.cell (by omega)
      have hc0 := r1.cell (i := 0) (by omega)
      have hf0 := r1.frozen 0
      obtain ⟨A, cp, hv, _⟩ := r3.rd
      obtain ⟨hE, hR⟩ := floorS_end hr
      have HE : Hid (zs = floorRows 7 n) := by
        unfold Hid; rw [HZ.out, List.take_of_length_le]; simp [floorRows]; omega
      rw [HE.out] at hE
      have HEE := Lib.hid hE; have HRR := Lib.hid hR
      clear r1 r2 r3 hr hE hR
      subst hv
      go_wp2_with fail
      refine (specGridOk_any _ _ _).mono ?_
      rintro e w1 ⟨rfl, rfl⟩
      go_wp2_with fail
      refine bodyPost_ret (v := .agg #[.slice A zs.length cp]) (by have hR' := HRR.out; simp [results, Try.results106, go_sem, hR']) rfl ?_
      exact HEE.out
set_option maxRecDepth 100000 in
set_option maxHeartbeats 2000000 in
theorem specTreeFloor_at3 (n : Nat) (h1 : 1 ≤ n) (h4 : n ≤ 4) (w : World) :
    Calls Try.prog 106 #[.int .i64 3, .int .i64 n] w (RetFloor w (floorRows 31 n)) := by
  obtain ⟨i0, hi0, hz0, hz1, hz2⟩ := info_parts infoInt
  have hg : gridB 3 n = true := by
    simp only [gridB, Bool.and_eq_true, inB_iff]; omega
  go_enter Try.func106, Try.ntmps106
  go_wp2_with fail
  go_loopw [6] (fun s wr => ∃ (v : Value) (zs : List Int), zs.length ≤ 2 * n - 1 ∧ s = .int .i64 (zs.length : Int) ∧ FloorS w wr v zs ∧ Hid (zs = (floorRows 31 n).take zs.length)) (fun s _ => 2 * n - 1 - (intOf s).toNat)
  case atStart => exact ⟨.slice none 0 0, [], by simp, rfl, floorS_start w, rfl⟩
  case round =>
    obtain ⟨v, zs, hk, rfl, hr, HZ⟩ := hrel
    by_cases hlt : zs.length < 2 * n - 1
    · obtain ⟨r1, r2, r3, r5, r6⟩ := id hr
      have hc : wr.cell? ⟨w.heap.size + 1, 0, none⟩ = some v := r2.cell (by omega)
      have HR := Lib.hid hr
      have R3 := Lib.hid r3
      clear r1 r2 r3 hr
      by_cases h0 : zs.length = 0
      · have h0' : ((zs.length : Int) == 0) = true := by simp [h0]
        have HN := Lib.hid (floor_take0 31 n zs HZ.out h0); clear h0
        go_wp2_with fail
        refine (specGridOk_any _ _ _).mono ?_
        rintro e w1 ⟨rfl, rfl⟩
        go_wp2_with (at_builtin; refine wpList_append_lies _ rfl (.tmp 31) (.tmp 33) _ rfl (w.heap.size + 2) 3 i0 _ 1 8 Try.underlying31 hi0 hz0 hz1 hz2 rfl (by omega) v zs.length _ rfl (World.ownsRow.alloc R3.out _) ⟨wr.heap.size, 0, none⟩ 1 1 [.int .i64 30] rfl rfl (World.news_of_block (cs := #[.int .i64 30]) (t := 3) (fr := (0, 0)) (heap_alloc_new wr _)) (by simp [Value.oneCell']) (by omega) (by unfold maxLen; omega) (by omega) (by simp; omega) (wr.heap.size + 1) (by simp) ?_; intro gg cap w1 hown1 hgrow hat hlt1; obtain ⟨hs1, hs2, hs3⟩ := FloorS.step HR.out hown1 hgrow; have HS1 := Lib.hid hs1; clear hs1)
        go_roundw
        case rel => exact ⟨_, zs ++ [31 - 1], by simp; omega, by simp, HS1.out, HN⟩
        case measure => simp [intOf]; omega
      · have h0' : ((zs.length : Int) == 0) = false := by rw [beq_eq_false_iff_ne]; omega
        have HN := Lib.hid (floor_take1 31 n zs HZ.out (by omega) hlt); clear h0
        go_wp2_with fail
        refine (specGridOk_any _ _ _).mono ?_
        rintro e w1 ⟨rfl, rfl⟩
        go_wp2_with (at_builtin; refine wpList_append_lies _ rfl (.tmp 31) (.tmp 33) _ rfl (w.heap.size + 2) 3 i0 _ 1 8 Try.underlying31 hi0 hz0 hz1 hz2 rfl (by omega) v zs.length _ rfl (World.ownsRow.alloc R3.out _) ⟨wr.heap.size, 0, none⟩ 1 1 [.int .i64 31] rfl rfl (World.news_of_block (cs := #[.int .i64 31]) (t := 3) (fr := (0, 0)) (heap_alloc_new wr _)) (by simp [Value.oneCell']) (by omega) (by unfold maxLen; omega) (by omega) (by simp; omega) (wr.heap.size + 1) (by simp) ?_; intro gg cap w1 hown1 hgrow hat hlt1; obtain ⟨hs1, hs2, hs3⟩ := FloorS.step HR.out hown1 hgrow; have HS1 := Lib.hid hs1; clear hs1)
        go_roundw
        case rel => exact ⟨_, zs ++ [31], by simp; omega, by simp, HS1.out, HN⟩
        case measure => simp [intOf]; omega
    · obtain ⟨r1, r2, r3, r5, r6⟩ := id hr
      have hc : wr.cell? ⟨w.heap.size + 1, 0, none⟩ = some v := r2.cell (by omega)
      have hc0 := r1.cell (i := 0) (by omega)
      have hf0 := r1.frozen 0
      obtain ⟨A, cp, hv, _⟩ := r3.rd
      obtain ⟨hE, hR⟩ := floorS_end hr
      have HE : Hid (zs = floorRows 31 n) := by
        unfold Hid; rw [HZ.out, List.take_of_length_le]; simp [floorRows]; omega
      rw [HE.out] at hE
      have HEE := Lib.hid hE; have HRR := Lib.hid hR
      clear r1 r2 r3 hr hE hR
      subst hv
      go_wp2_with fail
      refine (specGridOk_any _ _ _).mono ?_
      rintro e w1 ⟨rfl, rfl⟩
      go_wp2_with fail
      refine bodyPost_ret (v := .agg #[.slice A zs.length cp]) (by have hR' := HRR.out; simp [results, Try.results106, go_sem, hR']) rfl ?_
      exact HEE.out
set_option maxRecDepth 100000 in
set_option maxHeartbeats 2000000 in
theorem specTreeFloor_at4 (n : Nat) (h1 : 1 ≤ n) (h4 : n ≤ 4) (w : World) :
    Calls Try.prog 106 #[.int .i64 4, .int .i64 n] w (RetFloor w (floorRows 127 n)) := by
  obtain ⟨i0, hi0, hz0, hz1, hz2⟩ := info_parts infoInt
  have hg : gridB 4 n = true := by
    simp only [gridB, Bool.and_eq_true, inB_iff]; omega
  go_enter Try.func106, Try.ntmps106
  go_wp2_with fail
  go_loopw [6] (fun s wr => ∃ (v : Value) (zs : List Int), zs.length ≤ 2 * n - 1 ∧ s = .int .i64 (zs.length : Int) ∧ FloorS w wr v zs ∧ Hid (zs = (floorRows 127 n).take zs.length)) (fun s _ => 2 * n - 1 - (intOf s).toNat)
  case atStart => exact ⟨.slice none 0 0, [], by simp, rfl, floorS_start w, rfl⟩
  case round =>
    obtain ⟨v, zs, hk, rfl, hr, HZ⟩ := hrel
    by_cases hlt : zs.length < 2 * n - 1
    · obtain ⟨r1, r2, r3, r5, r6⟩ := id hr
      have hc : wr.cell? ⟨w.heap.size + 1, 0, none⟩ = some v := r2.cell (by omega)
      have HR := Lib.hid hr
      have R3 := Lib.hid r3
      clear r1 r2 r3 hr
      by_cases h0 : zs.length = 0
      · have h0' : ((zs.length : Int) == 0) = true := by simp [h0]
        have HN := Lib.hid (floor_take0 127 n zs HZ.out h0); clear h0
        go_wp2_with fail
        refine (specGridOk_any _ _ _).mono ?_
        rintro e w1 ⟨rfl, rfl⟩
        go_wp2_with (at_builtin; refine wpList_append_lies _ rfl (.tmp 31) (.tmp 33) _ rfl (w.heap.size + 2) 3 i0 _ 1 8 Try.underlying31 hi0 hz0 hz1 hz2 rfl (by omega) v zs.length _ rfl (World.ownsRow.alloc R3.out _) ⟨wr.heap.size, 0, none⟩ 1 1 [.int .i64 126] rfl rfl (World.news_of_block (cs := #[.int .i64 126]) (t := 3) (fr := (0, 0)) (heap_alloc_new wr _)) (by simp [Value.oneCell']) (by omega) (by unfold maxLen; omega) (by omega) (by simp; omega) (wr.heap.size + 1) (by simp) ?_; intro gg cap w1 hown1 hgrow hat hlt1; obtain ⟨hs1, hs2, hs3⟩ := FloorS.step HR.out hown1 hgrow; have HS1 := Lib.hid hs1; clear hs1)
        go_roundw
        case rel => exact ⟨_, zs ++ [127 - 1], by simp; omega, by simp, HS1.out, HN⟩
        case measure => simp [intOf]; omega
      · have h0' : ((zs.length : Int) == 0) = false := by rw [beq_eq_false_iff_ne]; omega
        have HN := Lib.hid (floor_take1 127 n zs HZ.out (by omega) hlt); clear h0
        go_wp2_with fail
        refine (specGridOk_any _ _ _).mono ?_
        rintro e w1 ⟨rfl, rfl⟩
        go_wp2_with (at_builtin; refine wpList_append_lies _ rfl (.tmp 31) (.tmp 33) _ rfl (w.heap.size + 2) 3 i0 _ 1 8 Try.underlying31 hi0 hz0 hz1 hz2 rfl (by omega) v zs.length _ rfl (World.ownsRow.alloc R3.out _) ⟨wr.heap.size, 0, none⟩ 1 1 [.int .i64 127] rfl rfl (World.news_of_block (cs := #[.int .i64 127]) (t := 3) (fr := (0, 0)) (heap_alloc_new wr _)) (by simp [Value.oneCell']) (by omega) (by unfold maxLen; omega) (by omega) (by simp; omega) (wr.heap.size + 1) (by simp) ?_; intro gg cap w1 hown1 hgrow hat hlt1; obtain ⟨hs1, hs2, hs3⟩ := FloorS.step HR.out hown1 hgrow; have HS1 := Lib.hid hs1; clear hs1)
        go_roundw
        case rel => exact ⟨_, zs ++ [127], by simp; omega, by simp, HS1.out, HN⟩
        case measure => simp [intOf]; omega
    · obtain ⟨r1, r2, r3, r5, r6⟩ := id hr
      have hc : wr.cell? ⟨w.heap.size + 1, 0, none⟩ = some v := r2.cell (by omega)
      have hc0 := r1.cell (i := 0) (by omega)
      have hf0 := r1.frozen 0
      obtain ⟨A, cp, hv, _⟩ := r3.rd
      obtain ⟨hE, hR⟩ := floorS_end hr
      have HE : Hid (zs = floorRows 127 n) := by
        unfold Hid; rw [HZ.out, List.take_of_length_le]; simp [floorRows]; omega
      rw [HE.out] at hE
      have HEE := Lib.hid hE; have HRR := Lib.hid hR
      clear r1 r2 r3 hr hE hR
      subst hv
      go_wp2_with fail
      refine (specGridOk_any _ _ _).mono ?_
      rintro e w1 ⟨rfl, rfl⟩
      go_wp2_with fail
      refine bodyPost_ret (v := .agg #[.slice A zs.length cp]) (by have hR' := HRR.out; simp [results, Try.results106, go_sem, hR']) rfl ?_
      exact HEE.out

theorem specTreeFloor_any (a b : Int) (w : World) :
    Calls Try.prog 106 #[.int .i64 a, .int .i64 b] w (RetFloor w (floorZ a b)) := by
  cases hg : gridB a b
  · rw [show floorZ a b = [] from by rw [floorZ, hg]; rfl]
    go_enter Try.func106, Try.ntmps106
    go_wp2_with fail
    go_loopw [6] (fun s wr => s = .int .i64 0 ∧ wr = ((w.alloc (.cells #[.slice none 0 0] 39)).alloc (.cells #[.slice none 0 0] 39))) (fun _ _ => 0)
    case atStart => exact ⟨rfl, rfl⟩
    case round =>
      obtain ⟨rfl, rfl⟩ := hrel
      go_wp2_with fail
      refine (specGridOk_any _ _ _).mono ?_
      rintro e w1 ⟨rfl, rfl⟩
      go_wp2_with fail
      refine bodyPost_ret (v := .agg #[.slice none 0 0]) (by simp [results, Try.results106, go_sem]) rfl ?_
      refine ⟨.slice none 0 0, rfl, World.ownsRow_nil _ _ _ _, ?_⟩
      repeat (first | exact Below.refl _ _ | refine Below.setCell ?_ (by simp <;> omega) _ | refine Below.alloc ?_ (by simp <;> omega) _)
  · have h := hg
    simp only [gridB, Bool.and_eq_true, inB_iff] at h
    obtain ⟨⟨g1, g2⟩, g3, g4⟩ := h
    obtain ⟨n, rfl⟩ := Int.eq_ofNat_of_zero_le (show 0 ≤ b by omega)
    rcases (show a = 1 ∨ a = 2 ∨ a = 3 ∨ a = 4 by omega) with rfl | rfl | rfl | rfl
    · rw [show floorZ 1 n = floorRows 1 n from by rw [floorZ, hg]; rfl]; exact specTreeFloor_at1 n (by omega) (by omega) w
    · rw [show floorZ 2 n = floorRows 7 n from by rw [floorZ, hg]; rfl]; exact specTreeFloor_at2 n (by omega) (by omega) w
    · rw [show floorZ 3 n = floorRows 31 n from by rw [floorZ, hg]; rfl]; exact specTreeFloor_at3 n (by omega) (by omega) w
    · rw [show floorZ 4 n = floorRows 127 n from by rw [floorZ, hg]; rfl]; exact specTreeFloor_at4 n (by omega) (by omega) w
end Go.Proofs.Ytehnbalbpfmijaa

namespace Go.Proofs.Ytehnbalbpfmijaa
open Go.RowKit
set_option linter.unusedVariables false

/-- The first k dominoes are the same. -/
def sameTo (xs ys : List Lk) (k : Nat) : Prop := ∀ i, i < k → dAt xs i = dAt ys i
theorem sameD_all {xs ys : List Lk} (hl : xs.length = ys.length) (h : sameTo xs ys xs.length) : decide (xs = ys) = true := by
  rw [decide_eq_true_eq]
  refine List.ext_getElem hl fun i h1 h2 => ?_
  have := h i h1
  rw [dAt_get xs i h1, dAt_get ys i h2] at this
  exact this
theorem sameD_not {xs ys : List Lk} {i : Nat} (h : dAt xs i ≠ dAt ys i) : decide (xs = ys) = false := by
  rw [decide_eq_false_iff_not]
  intro e; subst e; exact h rfl
theorem sameD_len {xs ys : List Lk} (h : xs.length ≠ ys.length) : decide (xs = ys) = false := by
  rw [decide_eq_false_iff_not]
  intro e; subst e; exact h rfl

set_option maxRecDepth 100000 in
set_option maxHeartbeats 4000000 in
theorem SameD_any (u v : Value) (xs ys : List Lk) (B : Nat) (w : World) (hu : RdF elDomino w B u xs) (hv : RdF elDomino w B v ys) (hB : B ≤ w.heap.size) :
    Calls Try.prog 95 #[u, v] w fun e w' => e = .returned (.bool (decide (xs = ys))) ∧ Drawn w w' := by
  obtain ⟨A, c, rfl, g1, g2, G3⟩ := RdT.of (E := elDomino) rfl (fun _ => rfl) hu
  obtain ⟨A2, c2, rfl, q1, q2, G4⟩ := RdT.of (E := elDomino) rfl (fun _ => rfl) hv
  unfold maxLen at g2 q2
  clear hu hv
  by_cases hl : xs.length = ys.length
  · have hne0 : ((xs.length : Int) != (ys.length : Int)) = false := by rw [hl]; simp
    go_enter Try.func95, Try.ntmps95
    go_wp2_with fail
    go_loopw [13] (fun s wr => ∃ k : Nat, k ≤ xs.length ∧ s = .int .i64 k ∧ Hid (Drawn w wr) ∧ Hid (sameTo xs ys k)) (fun s _ => xs.length - (intOf s).toNat)
    case atStart => exact ⟨0, Nat.zero_le _, rfl, Drawn.refl _, fun i hi => by omega⟩
    case round =>
      obtain ⟨k, hk, rfl, HD, HS⟩ := hrel
      by_cases hlt : k < xs.length
      · have ht : decide ((k : Int) < (xs.length : Int)) = true := by simp only [decide_eq_true_eq]; omega
        obtain ⟨ad, rfl, had, hx, hy, hz⟩ := G3.out k hlt
        obtain ⟨ad2, rfl, had2, hx2, hy2, hz2⟩ := G4.out k (by omega)
        have hb := HD.out.below w.heap.size
        have hx' := (hb.cell (p := ad.add (k * 3)) (by rw [addBlock]; omega)).trans hx
        have hy' := (hb.cell (p := ⟨(ad.add (k * 3)).block, (ad.add (k * 3)).off + 1, none⟩) (by show (ad.add (k * 3)).block < _; rw [addBlock]; omega)).trans hy
        have hz' := (hb.cell (p := ⟨(ad.add (k * 3)).block, (ad.add (k * 3)).off + 2, none⟩) (by show (ad.add (k * 3)).block < _; rw [addBlock]; omega)).trans hz
        have ux := (hb.cell (p := ad2.add (k * 3)) (by rw [addBlock]; omega)).trans hx2
        have uy := (hb.cell (p := ⟨(ad2.add (k * 3)).block, (ad2.add (k * 3)).off + 1, none⟩) (by show (ad2.add (k * 3)).block < _; rw [addBlock]; omega)).trans hy2
        have uz := (hb.cell (p := ⟨(ad2.add (k * 3)).block, (ad2.add (k * 3)).off + 2, none⟩) (by show (ad2.add (k * 3)).block < _; rw [addBlock]; omega)).trans hz2
        have hk0 : (0 : Int) ≤ (k : Int) := by omega
        have hk1 : (k : Int) < (xs.length : Int) := by omega
        have hk2 : (k : Int) < (ys.length : Int) := by omega
        have hk3 : k < ys.length := by omega
        have HEY : Hid (dAt xs k = (lx xs k, ly xs k, ld xs k)) := rfl
        have HEX : Hid (dAt ys k = (lx ys k, ly ys k, ld ys k)) := rfl
        clear hx hy hz hx2 hy2 hz2 hb
        generalize lx xs k = p1 at *
        generalize ly xs k = p2 at *
        generalize ld xs k = p3 at *
        generalize lx ys k = r1 at *
        generalize ly ys k = r2 at *
        generalize ld ys k = r3 at *
        by_cases e1 : p1 = r1
        · subst e1
          by_cases e2 : p2 = r2
          · subst e2
            by_cases e3 : p3 = r3
            · subst e3
              have HS2 : Hid (sameTo xs ys (k + 1)) := fun i hi => by
                by_cases e : i = k
                · subst e; rw [HEY.out, HEX.out]
                · exact HS.out i (by omega)
              go_wp2_with fail
              go_quiet (fail)
              go_wp2_with fail
              go_roundw
              case rel => exact ⟨k + 1, by omega, by go_num, HD.out.trans ⟨_, rfl⟩, HS2⟩
              case measure => simp [intOf]; omega
            · have f3 : (p3 == r3) = false := by rw [beq_eq_false_iff_ne]; exact e3
              have hno := sameD_not (i := k) (xs := xs) (ys := ys) (by rw [HEY.out, HEX.out]; simp [e3])
              go_wp2_with fail
              go_quiet (fail)
              go_wp2_with fail
              go_ret
              exact ⟨ret_bool hno.symm, HD.out.trans ⟨_, rfl⟩⟩
          · have f2 : (p2 == r2) = false := by rw [beq_eq_false_iff_ne]; exact e2
            have hno := sameD_not (i := k) (xs := xs) (ys := ys) (by rw [HEY.out, HEX.out]; simp [e2])
            go_wp2_with fail
            go_quiet (fail)
            go_wp2_with fail
            go_ret
            exact ⟨ret_bool hno.symm, HD.out.trans ⟨_, rfl⟩⟩
        · have f1 : (p1 == r1) = false := by rw [beq_eq_false_iff_ne]; exact e1
          have hno := sameD_not (i := k) (xs := xs) (ys := ys) (by rw [HEY.out, HEX.out]; simp [e1])
          go_wp2_with fail
          go_quiet (fail)
          go_wp2_with fail
          go_ret
          exact ⟨ret_bool hno.symm, HD.out.trans ⟨_, rfl⟩⟩
      · have ht : decide ((k : Int) < (xs.length : Int)) = false := by simp only [decide_eq_false_iff_not]; omega
        obtain rfl : k = xs.length := by omega
        have hyes := sameD_all hl HS.out
        go_wp2_with fail
        go_ret
        exact ⟨ret_bool hyes.symm, HD.out⟩
  · have hne0 : ((xs.length : Int) != (ys.length : Int)) = true := by simp; omega
    have hno := sameD_len hl
    go_enter Try.func95, Try.ntmps95
    go_wp2_with fail
    go_ret
    exact ⟨ret_bool hno.symm, Drawn.refl _⟩

set_option maxRecDepth 100000 in
set_option maxHeartbeats 4000000 in
theorem specSameD_any (u v : Value) (xs ys : List Lk) (B : Nat) (w : World) (hu : RdF elDomino w B u xs) (hv : RdF elDomino w B v ys) (hB : B ≤ w.heap.size) :
    Calls Try.prog 93 #[u, v] w fun e w' => e = .returned (.bool (decide (xs = ys))) ∧ Drawn w w' := by
  obtain ⟨A, c, rfl, g1, g2, G3⟩ := RdT.of (E := elDomino) rfl (fun _ => rfl) hu
  obtain ⟨A2, c2, rfl, q1, q2, G4⟩ := RdT.of (E := elDomino) rfl (fun _ => rfl) hv
  unfold maxLen at g2 q2
  clear hu hv
  by_cases hl : xs.length = ys.length
  · have hne0 : ((xs.length : Int) != (ys.length : Int)) = false := by rw [hl]; simp
    go_enter Try.func93, Try.ntmps93
    go_wp2_with fail
    go_loopw [5] (fun s wr => ∃ k : Nat, k ≤ xs.length ∧ s = .int .i64 k ∧ Hid (Drawn w wr) ∧ Hid (sameTo xs ys k)) (fun s _ => xs.length - (intOf s).toNat)
    case atStart => exact ⟨0, Nat.zero_le _, rfl, Drawn.refl _, fun i hi => by omega⟩
    case round =>
      obtain ⟨k, hk, rfl, HD, HS⟩ := hrel
      by_cases hlt : k < xs.length
      · have ht : decide ((k : Int) < (xs.length : Int)) = true := by simp only [decide_eq_true_eq]; omega
        obtain ⟨ad, rfl, had, hx, hy, hz⟩ := G3.out k hlt
        obtain ⟨ad2, rfl, had2, hx2, hy2, hz2⟩ := G4.out k (by omega)
        have hb := HD.out.below w.heap.size
        have hx' := (hb.cell (p := ad.add (k * 3)) (by rw [addBlock]; omega)).trans hx
        have hy' := (hb.cell (p := ⟨(ad.add (k * 3)).block, (ad.add (k * 3)).off + 1, none⟩) (by show (ad.add (k * 3)).block < _; rw [addBlock]; omega)).trans hy
        have hz' := (hb.cell (p := ⟨(ad.add (k * 3)).block, (ad.add (k * 3)).off + 2, none⟩) (by show (ad.add (k * 3)).block < _; rw [addBlock]; omega)).trans hz
        have ux := (hb.cell (p := ad2.add (k * 3)) (by rw [addBlock]; omega)).trans hx2
        have uy := (hb.cell (p := ⟨(ad2.add (k * 3)).block, (ad2.add (k * 3)).off + 1, none⟩) (by show (ad2.add (k * 3)).block < _; rw [addBlock]; omega)).trans hy2
        have uz := (hb.cell (p := ⟨(ad2.add (k * 3)).block, (ad2.add (k * 3)).off + 2, none⟩) (by show (ad2.add (k * 3)).block < _; rw [addBlock]; omega)).trans hz2
        have hk0 : (0 : Int) ≤ (k : Int) := by omega
        have hk1 : (k : Int) < (xs.length : Int) := by omega
        have hk2 : (k : Int) < (ys.length : Int) := by omega
        have hk3 : k < ys.length := by omega
        have HEY : Hid (dAt xs k = (lx xs k, ly xs k, ld xs k)) := rfl
        have HEX : Hid (dAt ys k = (lx ys k, ly ys k, ld ys k)) := rfl
        clear hx hy hz hx2 hy2 hz2 hb
        generalize lx xs k = p1 at *
        generalize ly xs k = p2 at *
        generalize ld xs k = p3 at *
        generalize lx ys k = r1 at *
        generalize ly ys k = r2 at *
        generalize ld ys k = r3 at *
        by_cases e1 : p1 = r1
        · subst e1
          by_cases e2 : p2 = r2
          · subst e2
            by_cases e3 : p3 = r3
            · subst e3
              have HS2 : Hid (sameTo xs ys (k + 1)) := fun i hi => by
                by_cases e : i = k
                · subst e; rw [HEY.out, HEX.out]
                · exact HS.out i (by omega)
              go_wp2_with fail
              go_quiet (fail)
              go_wp2_with fail
              go_roundw
              case rel => exact ⟨k + 1, by omega, by go_num, HD.out.trans ⟨_, rfl⟩, HS2⟩
              case measure => simp [intOf]; omega
            · have f3 : (p3 == r3) = false := by rw [beq_eq_false_iff_ne]; exact e3
              have hno := sameD_not (i := k) (xs := xs) (ys := ys) (by rw [HEY.out, HEX.out]; simp [e3])
              go_wp2_with fail
              go_quiet (fail)
              go_wp2_with fail
              go_ret
              exact ⟨ret_bool hno.symm, HD.out.trans ⟨_, rfl⟩⟩
          · have f2 : (p2 == r2) = false := by rw [beq_eq_false_iff_ne]; exact e2
            have hno := sameD_not (i := k) (xs := xs) (ys := ys) (by rw [HEY.out, HEX.out]; simp [e2])
            go_wp2_with fail
            go_quiet (fail)
            go_wp2_with fail
            go_ret
            exact ⟨ret_bool hno.symm, HD.out.trans ⟨_, rfl⟩⟩
        · have f1 : (p1 == r1) = false := by rw [beq_eq_false_iff_ne]; exact e1
          have hno := sameD_not (i := k) (xs := xs) (ys := ys) (by rw [HEY.out, HEX.out]; simp [e1])
          go_wp2_with fail
          go_quiet (fail)
          go_wp2_with fail
          go_ret
          exact ⟨ret_bool hno.symm, HD.out.trans ⟨_, rfl⟩⟩
      · have ht : decide ((k : Int) < (xs.length : Int)) = false := by simp only [decide_eq_false_iff_not]; omega
        obtain rfl : k = xs.length := by omega
        have hyes := sameD_all hl HS.out
        go_wp2_with fail
        go_ret
        exact ⟨ret_bool hyes.symm, HD.out⟩
  · have hne0 : ((xs.length : Int) != (ys.length : Int)) = true := by simp; omega
    have hno := sameD_len hl
    go_enter Try.func93, Try.ntmps93
    go_wp2_with fail
    go_ret
    exact ⟨ret_bool hno.symm, Drawn.refl _⟩
end Go.Proofs.Ytehnbalbpfmijaa
