/- What the claim's walk rests on: parts MovG, FixV. -/
import Derived.Test.YtehnbalbpfmijaaKCFx13
import Derived.Test.YtehnbalbpfmijaaKCFx10
import Derived.Test.YtehnbalbpfmijaaKCFx12
namespace Go.Proofs.Ytehnbalbpfmijaa
open Go.RowKit
set_option linter.unusedVariables false

/-- A cell, mirrored (m) and turned k times. -/
def mapK (m : Bool) (s : Int) : Nat → Int → Int → Int × Int
  | 0, x, y => if m then (s - 1 - x, y) else (x, y)
  | k + 1, x, y => (s - 1 - (mapK m s k x y).2, (mapK m s k x y).1)
def lmL (m : Bool) (k : Nat) (s : Int) (l : Lk) : Lk :=
  overL (mapK m s k l.1 l.2.1).1 (mapK m s k l.1 l.2.1).2 (mapK m s k (sndX l.1 l.2.2) (sndY l.2.1 l.2.2)).1 (mapK m s k (sndX l.1 l.2.2) (sndY l.2.1 l.2.2)).2
def lmTo (m : Bool) (k : Nat) (s : Int) (ls : List Lk) : Nat → List Lk
  | 0 => []
  | j + 1 => lmTo m k s ls j ++ [lmL m k s (dAt ls j)]
theorem lmTo_len (m : Bool) (k : Nat) (s : Int) (ls : List Lk) : ∀ j, (lmTo m k s ls j).length = j
  | 0 => rfl
  | j + 1 => by rw [lmTo, List.length_append, lmTo_len m k s ls j]; rfl
/-- What l19Moved returns for a tiling of the square. -/
def lmZ (m : Bool) (k : Nat) (s : Int) (ls : List Lk) : List Lk := sortI (lmTo m k s ls ls.length) ls.length
theorem mapK_in (m : Bool) (s : Int) {x y : Int} (h1 : 0 ≤ x ∧ x < s) (h2 : 0 ≤ y ∧ y < s) : ∀ k, (0 ≤ (mapK m s k x y).1 ∧ (mapK m s k x y).1 < s) ∧ 0 ≤ (mapK m s k x y).2 ∧ (mapK m s k x y).2 < s
  | 0 => by cases m <;> simp [mapK] <;> omega
  | k + 1 => by
    obtain ⟨⟨a, b⟩, c, d⟩ := mapK_in m s h1 h2 k
    simp only [mapK]
    omega
def adjB (x y x2 y2 : Int) : Prop := (x = x2 ∧ (y2 = y + 1 ∨ y = y2 + 1)) ∨ (y = y2 ∧ (x2 = x + 1 ∨ x = x2 + 1))
theorem mapK_adj (m : Bool) (s : Int) {x y x2 y2 : Int} (h : adjB x y x2 y2) : ∀ k, adjB (mapK m s k x y).1 (mapK m s k x y).2 (mapK m s k x2 y2).1 (mapK m s k x2 y2).2
  | 0 => by unfold adjB at h ⊢; cases m <;> simp [mapK] <;> omega
  | k + 1 => by
    have ih := mapK_adj m s h k
    unfold adjB at ih ⊢
    simp only [mapK]
    omega
theorem next_mapK (m : Bool) (k : Nat) {s : Nat} (hs : s ≤ 8) {x y x2 y2 : Int} (h1 : 0 ≤ x ∧ x < s) (h2 : 0 ≤ y ∧ y < s) (h3 : 0 ≤ x2 ∧ x2 < s) (h4 : 0 ≤ y2 ∧ y2 < s) (h : (x2 = x ∧ y2 = y + 1) ∨ (x2 = x + 1 ∧ y2 = y)) :
    nextB (mapK m s k x y).1 (mapK m s k x y).2 (mapK m s k x2 y2).1 (mapK m s k x2 y2).2 := by
  obtain ⟨⟨a, b⟩, c, d⟩ := mapK_in m s h1 h2 k
  obtain ⟨⟨a', b'⟩, c', d'⟩ := mapK_in m s h3 h4 k
  have ha := mapK_adj m s (x := x) (y := y) (x2 := x2) (y2 := y2) (by unfold adjB; omega) k
  unfold adjB at ha
  unfold nextB
  omega

set_option maxRecDepth 100000 in
set_option maxHeartbeats 8000000 in
theorem l19Moved_false (s : Nat) (v : Value) (ls : List Lk) (tn : Nat) (htn : tn ≤ 3) (B : Nat) (w : World) (h : RdF elDomino w B v ls) (hB : B ≤ w.heap.size) (hf : fltB s s ls = true) :
    Calls Try.prog 67 #[.int .i64 (s : Int), v, .int .i64 (tn : Int), .bool false] w fun e w' => ∃ u, e = .returned u ∧ OwnF elDomino w' w.heap.size u (lmZ false tn s ls) ∧ Below w.heap.size w w' := by
  have HZ : Hid (lmZ false tn s ls = sortI (lmTo false tn s ls ls.length) ls.length) := rfl
  rw [HZ.out]
  obtain ⟨hs1, hs2, ht⟩ := fltB_nat hf
  have hls := tile_short hs2 ht
  have HIN := Lib.hid (fun k (hk : k < ls.length) => tile_in hs2 ht hk)
  have HLEN := Lib.hid (lmTo_len false tn (s : Int) ls)
  have HMS : Hid (∀ k, lmTo false tn (s : Int) ls (k + 1) = lmTo false tn (s : Int) ls k ++ [lmL false tn (s : Int) (dAt ls k)]) := fun k => rfl
  have HM0 : Hid (lmTo false tn (s : Int) ls 0 = []) := rfl
  obtain ⟨mv, HMV0⟩ : ∃ mv, Hid (mv = lmTo false tn (s : Int) ls) := ⟨_, rfl⟩
  rw [← HMV0.out] at HMS HM0 HLEN ⊢
  obtain ⟨A, c, rfl, g1, g2, G3⟩ := RdT.of (E := elDomino) rfl (fun _ => rfl) h
  unfold maxLen at g2
  have HA0 : Hid (Acc elDomino w w.heap.size (w.alloc (.cells #[] 46)) (.slice (some ⟨w.heap.size, 0, none⟩) 0 0) []) := Acc.start w
  clear ht h hf HMV0 HZ
  go_enter Try.func67, Try.ntmps67
  go_wp2_with fail
  go_loopw [9, 10] (fun o i wr => ∃ (k : Nat) (u : Value), k ≤ ls.length ∧ i = .int .i64 (k : Int) ∧ u = o ∧ Hid (Acc elDomino w w.heap.size wr u (mv k))) (fun _ i _ => ls.length - (intOf i).toNat)
  case atStart => exact ⟨0, _, Nat.zero_le _, rfl, rfl, by rw [HM0.out]; exact HA0⟩
  case round =>
    obtain ⟨k, u, hk, rfl, rfl, HA⟩ := hrel
    obtain ⟨A1, ca, hv, q1, q2, _⟩ := HA.out.1.rd okDomino
    have hml := HLEN.out k
    rw [hml] at hv q1
    subst hv
    unfold maxLen at q2
    by_cases hlt : k < ls.length
    · have ht : decide ((k : Int) < (ls.length : Int)) = true := by simp only [decide_eq_true_eq]; omega
      obtain ⟨ad, rfl, hbl, hx, hy, hz⟩ := G3.out k hlt
      have hbl2 : (ad.add (k * 3)).block < w.heap.size := by rw [addBlock]; omega
      have hbw := HA.out.2.1
      have hx' := (hbw.cell (p := ad.add (k * 3)) hbl2).trans hx
      have hy' := (hbw.cell (p := ⟨(ad.add (k * 3)).block, (ad.add (k * 3)).off + 1, none⟩) hbl2).trans hy
      have hz' := (hbw.cell (p := ⟨(ad.add (k * 3)).block, (ad.add (k * 3)).off + 2, none⟩) hbl2).trans hz
      obtain ⟨hd, hxb, hyb, hxb2, hyb2⟩ := HIN.out k hlt
      have hnx := snd_next hd
      have HMK := Lib.hid (HMS.out k)
      unfold lmL dAt at HMK
      have HOV0 := Lib.hid (fun V => specDominoOver_yes _ _ _ _ (next_mapK false tn hs2 hxb hyb hxb2 hyb2 hnx) V)
      have HEN := Lib.hid (fun V => CellsUnder_yes (lx ls k) (ly ls k) (ld ls k) V hd)
      have hk0 : (0 : Int) ≤ (k : Int) := by omega
      have hk1 : (k : Int) < (ls.length : Int) := by omega
      generalize sndX (lx ls k) (ld ls k) = x2 at *
      generalize sndY (ly ls k) (ld ls k) = y2 at *
      generalize lx ls k = x at *
      generalize ly ls k = y at *
      generalize ld ls k = d at *
      have HMIN := Lib.hid (mapK_in false s hxb hyb)
      have HMIN2 := Lib.hid (mapK_in false s hxb2 hyb2)
      have HMST : Hid (∀ j, mapK false s (j + 1) x y = (s - 1 - (mapK false s j x y).2, (mapK false s j x y).1)) := fun j => rfl
      have HMST2 : Hid (∀ j, mapK false s (j + 1) x2 y2 = (s - 1 - (mapK false s j x2 y2).2, (mapK false s j x2 y2).1)) := fun j => rfl
      have HMZ : Hid (mapK false s 0 x y = (x, y)) := rfl
      have HMZ2 : Hid (mapK false s 0 x2 y2 = (x2, y2)) := rfl
      obtain ⟨mk, HMKF⟩ : ∃ mk : Nat → Int × Int, Hid (mk = fun j => mapK false s j x y) := ⟨_, rfl⟩
      obtain ⟨mk2, HMKF2⟩ : ∃ mk2 : Nat → Int × Int, Hid (mk2 = fun j => mapK false s j x2 y2) := ⟨_, rfl⟩
      have e1 : ∀ j, mapK false (s : Int) j x y = mk j := fun j => by rw [HMKF.out]
      have e2 : ∀ j, mapK false (s : Int) j x2 y2 = mk2 j := fun j => by rw [HMKF2.out]
      simp only [e1, e2, Hid] at HMK HOV0 HMIN HMIN2 HMST HMST2 HMZ HMZ2
      replace HMK := Lib.hid HMK; replace HOV0 := Lib.hid HOV0; replace HMIN := Lib.hid HMIN; replace HMIN2 := Lib.hid HMIN2
      replace HMST := Lib.hid HMST; replace HMST2 := Lib.hid HMST2; replace HMZ := Lib.hid HMZ; replace HMZ2 := Lib.hid HMZ2
      clear e1 e2 HMKF HMKF2
      obtain ⟨nx, ny, nd, HON⟩ : ∃ nx ny nd, Hid (overL (mk tn).1 (mk tn).2 (mk2 tn).1 (mk2 tn).2 = (nx, ny, nd)) := ⟨_, _, _, rfl⟩
      have HMV : Hid (mv (k + 1) = mv k ++ [(nx, ny, nd)]) := by unfold Hid; rw [HMK.out, HON.out]
      have HOV : Hid (∀ V, Calls Try.prog 133 #[spotV (mk tn).1 (mk tn).2, spotV (mk2 tn).1 (mk2 tn).2] V fun e w' => e = .returned (.tuple #[triV nx ny nd, .bool true]) ∧ Below V.heap.size V w') := by
        have h9 := HOV0.out
        rw [HON.out] at h9
        exact h9
      have hm32 : (mv k).length ≤ 32 := by rw [hml]; omega
      generalize mv k = ys at *
      have hc1 : IntKind.i64.wrap ((s : Int) - 1) = (s : Int) - 1 := IntWalk.i64_in _ (by omega)
      clear hx hy hz hbw HMK HOV0 HON hnx hd hml
      go_wp2_with fail
      refine (HEN.out _).mono ?_
      rintro e w3 ⟨rfl, hb3⟩
      have HA3 := Lib.hid (HA.out.below hb3)
      clear hb3 hx' hy' hz'
      go_upto_region 6 with (fail)
      obtain ⟨V, hV, k1, k2, hbV⟩ := two_alloc w3 (.cells #[.int .i64 x, .int .i64 y] 44) (.cells #[.int .i64 x2, .int .i64 y2] 44)
      rw [← hV]
      obtain ⟨na, hna⟩ : ∃ na, w3.heap.size = na := ⟨_, rfl⟩
      have HNA := Lib.hid hna
      rw [hna] at k1 k2 hbV ⊢
      obtain ⟨f0, f1, f2, f3, f4, f5⟩ := TwoC.of k1 k2
      have HK1 := Lib.hid k1; have HK2 := Lib.hid k2
      have HBV : Hid (Below na w3 V) := hbV
      clear hV k1 k2 hbV hna
      have HJ1 : Hid (V.heap[na]? = some (.cells #[.int .i64 (mk 0).1, .int .i64 (mk 0).2] 44 (0, 0))) := by unfold Hid; rw [HMZ.out]; exact HK1.out
      have HJ2 : Hid (V.heap[na + 1]? = some (.cells #[.int .i64 (mk2 0).1, .int .i64 (mk2 0).2] 44 (0, 0))) := by unfold Hid; rw [HMZ2.out]; exact HK2.out
      have HJB := Lib.hid HBV.out
      go_wp2_with fail
      clear f0 f1 f2 f3 f4 f5
      go_loopw [13] (fun i wr2 => ∃ j : Nat, j ≤ tn ∧ i = .int .i64 (j : Int) ∧ Hid (wr2.heap[na]? = some (.cells #[.int .i64 (mk j).1, .int .i64 (mk j).2] 44 (0, 0))) ∧ Hid (wr2.heap[na + 1]? = some (.cells #[.int .i64 (mk2 j).1, .int .i64 (mk2 j).2] 44 (0, 0))) ∧ Hid (Below na w3 wr2)) (fun i _ => tn - (intOf i).toNat)
      case atStart => exact ⟨0, by omega, rfl, HJ1, HJ2, HJB⟩
      case round =>
        obtain ⟨j, hj, rfl, HI1, HI2, HIB⟩ := hrel
        obtain ⟨f0, f1, f2, f3, f4, f5⟩ := TwoC.of HI1.out HI2.out
        by_cases hjt : j < tn
        · have htj : decide ((j : Int) < (tn : Int)) = true := by simp only [decide_eq_true_eq]; omega
          have hin := HMIN.out j
          have hin2 := HMIN2.out j
          have hst := HMST.out j
          have hst2 := HMST2.out j
          have HE1 : Hid ((mk (j + 1)).1 = s - 1 - (mk j).2 ∧ (mk (j + 1)).2 = (mk j).1) := by rw [hst]; exact ⟨rfl, rfl⟩
          have HE2 : Hid ((mk2 (j + 1)).1 = s - 1 - (mk2 j).2 ∧ (mk2 (j + 1)).2 = (mk2 j).1) := by rw [hst2]; exact ⟨rfl, rfl⟩
          clear hst hst2
          generalize (mk j).1 = p at *
          generalize (mk j).2 = q at *
          generalize (mk2 j).1 = p2 at *
          generalize (mk2 j).2 = q2 at *
          have hc2 : IntKind.i64.wrap ((s : Int) - 1 - q) = (s : Int) - 1 - q := IntWalk.i64_in _ (by omega)
          have hc3 : IntKind.i64.wrap ((s : Int) - 1 - q2) = (s : Int) - 1 - q2 := IntWalk.i64_in _ (by omega)
          have HQ1 := Lib.hid (blk_setCell (k := 1) (blk_setCell (k := 0) HI1.out (.int .i64 ((s : Int) - 1 - q))) (.int .i64 p))
          clear hin hin2
          go_wp2_with fail
          go_roundw
          case rel =>
            refine ⟨j + 1, by omega, by go_num, ?_, ?_, ?_⟩
            · rw [HE1.out.1, HE1.out.2]
              exact (Below.heap_setCell _ _ _ _ (by simp)).trans ((Below.heap_setCell _ _ _ _ (by simp)).trans (blk_setCell (k := 1) (blk_setCell (k := 0) HI1.out (.int .i64 ((s : Int) - 1 - q))) (.int .i64 p)))
            · rw [HE2.out.1, HE2.out.2]
              exact blk_setCell (k := 1) (blk_setCell (k := 0) ((Below.heap_setCell _ _ _ _ (by simp)).trans ((Below.heap_setCell _ _ _ _ (by simp)).trans HI2.out)) (.int .i64 ((s : Int) - 1 - q2))) (.int .i64 p2)
            · exact ((((HIB.out.setCell (p := ⟨na, 0, none⟩) (Nat.le_refl _) _).setCell (p := ⟨na, 1, none⟩) (Nat.le_refl _) _).setCell (p := ⟨na + 1, 0, none⟩) (Nat.le_succ _) _).setCell (p := ⟨na + 1, 1, none⟩) (Nat.le_succ _) _)
          case measure => simp [intOf]; omega
        · obtain rfl : j = tn := by omega
          have htj : decide ((j : Int) < (j : Int)) = false := by simp
          have HAJ : Hid (Acc elDomino w w.heap.size wr (.slice A1 k ca) ys) := HA3.out.below (by rw [HNA.out]; exact HIB.out)
          go_wp2_with fail
          refine (HOV.out _).mono ?_
          rintro e w5 ⟨rfl, hb5⟩
          have HA5 := Lib.hid (HAJ.out.below hb5)
          clear f0 f1 f2 f3 f4 f5 hb5
          go_upto_region 15 with (fail)
          obtain ⟨V9, hV9, k9, hb9⟩ := one_alloc w5 (triO nx ny nd 46)
          rw [← hV9]
          have HA9 := Lib.hid (HA5.out.below hb9)
          obtain ⟨g0, g1, g2⟩ := tri_cells k9
          clear hV9 k9 hb9
          go_wp2_with (at_builtin; refine wpList_push okDomino rfl _ _ rfl HA9.out rfl (nx, ny, nd) _ rfl _ rfl rfl (by omega) ?_; intro v10 w10 HA10 HG10)
          go_roundw
          case rel => exact ⟨k + 1, _, by omega, by go_num, rfl, by rw [HMV.out]; exact HA10⟩
          case measure => simp [intOf]; omega
    · obtain rfl : k = ls.length := by omega
      have ht : decide ((ls.length : Int) < (ls.length : Int)) = false := by simp
      have HRD := Lib.hid (HA.out.1.rd okDomino)
      have HML := Lib.hid hml
      clear hml
      have HBA := Lib.hid HA.out.2.1
      go_wp2_with fail
      refine (specSortDominoes_any _ (mv ls.length) _ _ HRD.out (Nat.le_refl _)).mono ?_
      rintro e w9 ⟨u9, rfl, ho9, hb9⟩
      have ho9 : OwnF elDomino w9 wr.heap.size u9 (sortI (mv ls.length) ls.length) := by rw [HML.out] at ho9; exact ho9
      have HO9 := Lib.hid (ho9.mono HBA.out.size)
      have HB9 := Lib.hid (HBA.out.trans (hb9.mono HBA.out.size))
      clear ho9 hb9
      go_wp2_with fail
      go_ret
      exact ⟨_, rfl, HO9.out, HB9.out⟩

set_option maxRecDepth 100000 in
set_option maxHeartbeats 8000000 in
theorem l19Moved_true (s : Nat) (v : Value) (ls : List Lk) (tn : Nat) (htn : tn ≤ 3) (B : Nat) (w : World) (h : RdF elDomino w B v ls) (hB : B ≤ w.heap.size) (hf : fltB s s ls = true) :
    Calls Try.prog 67 #[.int .i64 (s : Int), v, .int .i64 (tn : Int), .bool true] w fun e w' => ∃ u, e = .returned u ∧ OwnF elDomino w' w.heap.size u (lmZ true tn s ls) ∧ Below w.heap.size w w' := by
  have HZ : Hid (lmZ true tn s ls = sortI (lmTo true tn s ls ls.length) ls.length) := rfl
  rw [HZ.out]
  obtain ⟨hs1, hs2, ht⟩ := fltB_nat hf
  have hls := tile_short hs2 ht
  have HIN := Lib.hid (fun k (hk : k < ls.length) => tile_in hs2 ht hk)
  have HLEN := Lib.hid (lmTo_len true tn (s : Int) ls)
  have HMS : Hid (∀ k, lmTo true tn (s : Int) ls (k + 1) = lmTo true tn (s : Int) ls k ++ [lmL true tn (s : Int) (dAt ls k)]) := fun k => rfl
  have HM0 : Hid (lmTo true tn (s : Int) ls 0 = []) := rfl
  obtain ⟨mv, HMV0⟩ : ∃ mv, Hid (mv = lmTo true tn (s : Int) ls) := ⟨_, rfl⟩
  rw [← HMV0.out] at HMS HM0 HLEN ⊢
  obtain ⟨A, c, rfl, g1, g2, G3⟩ := RdT.of (E := elDomino) rfl (fun _ => rfl) h
  unfold maxLen at g2
  have HA0 : Hid (Acc elDomino w w.heap.size (w.alloc (.cells #[] 46)) (.slice (some ⟨w.heap.size, 0, none⟩) 0 0) []) := Acc.start w
  clear ht h hf HMV0 HZ
  go_enter Try.func67, Try.ntmps67
  go_wp2_with fail
  go_loopw [9, 10] (fun o i wr => ∃ (k : Nat) (u : Value), k ≤ ls.length ∧ i = .int .i64 (k : Int) ∧ u = o ∧ Hid (Acc elDomino w w.heap.size wr u (mv k))) (fun _ i _ => ls.length - (intOf i).toNat)
  case atStart => exact ⟨0, _, Nat.zero_le _, rfl, rfl, by rw [HM0.out]; exact HA0⟩
  case round =>
    obtain ⟨k, u, hk, rfl, rfl, HA⟩ := hrel
    obtain ⟨A1, ca, hv, q1, q2, _⟩ := HA.out.1.rd okDomino
    have hml := HLEN.out k
    rw [hml] at hv q1
    subst hv
    unfold maxLen at q2
    by_cases hlt : k < ls.length
    · have ht : decide ((k : Int) < (ls.length : Int)) = true := by simp only [decide_eq_true_eq]; omega
      obtain ⟨ad, rfl, hbl, hx, hy, hz⟩ := G3.out k hlt
      have hbl2 : (ad.add (k * 3)).block < w.heap.size := by rw [addBlock]; omega
      have hbw := HA.out.2.1
      have hx' := (hbw.cell (p := ad.add (k * 3)) hbl2).trans hx
      have hy' := (hbw.cell (p := ⟨(ad.add (k * 3)).block, (ad.add (k * 3)).off + 1, none⟩) hbl2).trans hy
      have hz' := (hbw.cell (p := ⟨(ad.add (k * 3)).block, (ad.add (k * 3)).off + 2, none⟩) hbl2).trans hz
      obtain ⟨hd, hxb, hyb, hxb2, hyb2⟩ := HIN.out k hlt
      have hnx := snd_next hd
      have HMK := Lib.hid (HMS.out k)
      unfold lmL dAt at HMK
      have HOV0 := Lib.hid (fun V => specDominoOver_yes _ _ _ _ (next_mapK true tn hs2 hxb hyb hxb2 hyb2 hnx) V)
      have HEN := Lib.hid (fun V => CellsUnder_yes (lx ls k) (ly ls k) (ld ls k) V hd)
      have hk0 : (0 : Int) ≤ (k : Int) := by omega
      have hk1 : (k : Int) < (ls.length : Int) := by omega
      generalize sndX (lx ls k) (ld ls k) = x2 at *
      generalize sndY (ly ls k) (ld ls k) = y2 at *
      generalize lx ls k = x at *
      generalize ly ls k = y at *
      generalize ld ls k = d at *
      have HMIN := Lib.hid (mapK_in true s hxb hyb)
      have HMIN2 := Lib.hid (mapK_in true s hxb2 hyb2)
      have HMST : Hid (∀ j, mapK true s (j + 1) x y = (s - 1 - (mapK true s j x y).2, (mapK true s j x y).1)) := fun j => rfl
      have HMST2 : Hid (∀ j, mapK true s (j + 1) x2 y2 = (s - 1 - (mapK true s j x2 y2).2, (mapK true s j x2 y2).1)) := fun j => rfl
      have HMZ : Hid (mapK true s 0 x y = ((s : Int) - 1 - x, y)) := rfl
      have HMZ2 : Hid (mapK true s 0 x2 y2 = ((s : Int) - 1 - x2, y2)) := rfl
      obtain ⟨mk, HMKF⟩ : ∃ mk : Nat → Int × Int, Hid (mk = fun j => mapK true s j x y) := ⟨_, rfl⟩
      obtain ⟨mk2, HMKF2⟩ : ∃ mk2 : Nat → Int × Int, Hid (mk2 = fun j => mapK true s j x2 y2) := ⟨_, rfl⟩
      have e1 : ∀ j, mapK true (s : Int) j x y = mk j := fun j => by rw [HMKF.out]
      have e2 : ∀ j, mapK true (s : Int) j x2 y2 = mk2 j := fun j => by rw [HMKF2.out]
      simp only [e1, e2, Hid] at HMK HOV0 HMIN HMIN2 HMST HMST2 HMZ HMZ2
      replace HMK := Lib.hid HMK; replace HOV0 := Lib.hid HOV0; replace HMIN := Lib.hid HMIN; replace HMIN2 := Lib.hid HMIN2
      replace HMST := Lib.hid HMST; replace HMST2 := Lib.hid HMST2; replace HMZ := Lib.hid HMZ; replace HMZ2 := Lib.hid HMZ2
      clear e1 e2 HMKF HMKF2
      obtain ⟨nx, ny, nd, HON⟩ : ∃ nx ny nd, Hid (overL (mk tn).1 (mk tn).2 (mk2 tn).1 (mk2 tn).2 = (nx, ny, nd)) := ⟨_, _, _, rfl⟩
      have HMV : Hid (mv (k + 1) = mv k ++ [(nx, ny, nd)]) := by unfold Hid; rw [HMK.out, HON.out]
      have HOV : Hid (∀ V, Calls Try.prog 133 #[spotV (mk tn).1 (mk tn).2, spotV (mk2 tn).1 (mk2 tn).2] V fun e w' => e = .returned (.tuple #[triV nx ny nd, .bool true]) ∧ Below V.heap.size V w') := by
        have h9 := HOV0.out
        rw [HON.out] at h9
        exact h9
      have hm32 : (mv k).length ≤ 32 := by rw [hml]; omega
      generalize mv k = ys at *
      have hc1 : IntKind.i64.wrap ((s : Int) - 1) = (s : Int) - 1 := IntWalk.i64_in _ (by omega)
      clear hx hy hz hbw HMK HOV0 HON hnx hd hml
      go_wp2_with fail
      refine (HEN.out _).mono ?_
      rintro e w3 ⟨rfl, hb3⟩
      have HA3 := Lib.hid (HA.out.below hb3)
      clear hb3 hx' hy' hz'
      go_upto_region 6 with (fail)
      obtain ⟨V, hV, k1, k2, hbV⟩ := two_alloc w3 (.cells #[.int .i64 x, .int .i64 y] 44) (.cells #[.int .i64 x2, .int .i64 y2] 44)
      rw [← hV]
      obtain ⟨na, hna⟩ : ∃ na, w3.heap.size = na := ⟨_, rfl⟩
      have HNA := Lib.hid hna
      rw [hna] at k1 k2 hbV ⊢
      obtain ⟨f0, f1, f2, f3, f4, f5⟩ := TwoC.of k1 k2
      have HK1 := Lib.hid k1; have HK2 := Lib.hid k2
      have HBV : Hid (Below na w3 V) := hbV
      clear hV k1 k2 hbV hna
      have hc2 : IntKind.i64.wrap ((s : Int) - 1 - x) = (s : Int) - 1 - x := IntWalk.i64_in _ (by omega)
      have hc3 : IntKind.i64.wrap ((s : Int) - 1 - x2) = (s : Int) - 1 - x2 := IntWalk.i64_in _ (by omega)
      go_wp2_with fail
      obtain ⟨V8, HV8⟩ : ∃ V8, Hid (V8 = (V.setCell ⟨na, 0, none⟩ (.int .i64 ((s : Int) - 1 - x))).setCell ⟨na + 1, 0, none⟩ (.int .i64 ((s : Int) - 1 - x2))) := ⟨_, rfl⟩
      rw [← HV8.out]
      have HJ1 : Hid (V8.heap[na]? = some (.cells #[.int .i64 (mk 0).1, .int .i64 (mk 0).2] 44 (0, 0))) := by unfold Hid; rw [HMZ.out, HV8.out]; exact (Below.heap_setCell _ _ _ _ (by simp)).trans (blk_setCell (k := 0) HK1.out (.int .i64 ((s : Int) - 1 - x)))
      have HJ2 : Hid (V8.heap[na + 1]? = some (.cells #[.int .i64 (mk2 0).1, .int .i64 (mk2 0).2] 44 (0, 0))) := by unfold Hid; rw [HMZ2.out, HV8.out]; exact blk_setCell (k := 0) ((Below.heap_setCell _ _ _ _ (by simp)).trans HK2.out) (.int .i64 ((s : Int) - 1 - x2))
      have HJB : Hid (Below na w3 V8) := by unfold Hid; rw [HV8.out]; exact (HBV.out.setCell (p := ⟨na, 0, none⟩) (Nat.le_refl _) _).setCell (p := ⟨na + 1, 0, none⟩) (Nat.le_succ _) _
      clear f0 f1 f2 f3 f4 f5 HV8 hc2 hc3
      go_loopw [13] (fun i wr2 => ∃ j : Nat, j ≤ tn ∧ i = .int .i64 (j : Int) ∧ Hid (wr2.heap[na]? = some (.cells #[.int .i64 (mk j).1, .int .i64 (mk j).2] 44 (0, 0))) ∧ Hid (wr2.heap[na + 1]? = some (.cells #[.int .i64 (mk2 j).1, .int .i64 (mk2 j).2] 44 (0, 0))) ∧ Hid (Below na w3 wr2)) (fun i _ => tn - (intOf i).toNat)
      case atStart => exact ⟨0, by omega, rfl, HJ1, HJ2, HJB⟩
      case round =>
        obtain ⟨j, hj, rfl, HI1, HI2, HIB⟩ := hrel
        obtain ⟨f0, f1, f2, f3, f4, f5⟩ := TwoC.of HI1.out HI2.out
        by_cases hjt : j < tn
        · have htj : decide ((j : Int) < (tn : Int)) = true := by simp only [decide_eq_true_eq]; omega
          have hin := HMIN.out j
          have hin2 := HMIN2.out j
          have hst := HMST.out j
          have hst2 := HMST2.out j
          have HE1 : Hid ((mk (j + 1)).1 = s - 1 - (mk j).2 ∧ (mk (j + 1)).2 = (mk j).1) := by rw [hst]; exact ⟨rfl, rfl⟩
          have HE2 : Hid ((mk2 (j + 1)).1 = s - 1 - (mk2 j).2 ∧ (mk2 (j + 1)).2 = (mk2 j).1) := by rw [hst2]; exact ⟨rfl, rfl⟩
          clear hst hst2
          generalize (mk j).1 = p at *
          generalize (mk j).2 = q at *
          generalize (mk2 j).1 = p2 at *
          generalize (mk2 j).2 = q2 at *
          have hc2 : IntKind.i64.wrap ((s : Int) - 1 - q) = (s : Int) - 1 - q := IntWalk.i64_in _ (by omega)
          have hc3 : IntKind.i64.wrap ((s : Int) - 1 - q2) = (s : Int) - 1 - q2 := IntWalk.i64_in _ (by omega)
          have HQ1 := Lib.hid (blk_setCell (k := 1) (blk_setCell (k := 0) HI1.out (.int .i64 ((s : Int) - 1 - q))) (.int .i64 p))
          clear hin hin2
          go_wp2_with fail
          go_roundw
          case rel =>
            refine ⟨j + 1, by omega, by go_num, ?_, ?_, ?_⟩
            · rw [HE1.out.1, HE1.out.2]
              exact (Below.heap_setCell _ _ _ _ (by simp)).trans ((Below.heap_setCell _ _ _ _ (by simp)).trans (blk_setCell (k := 1) (blk_setCell (k := 0) HI1.out (.int .i64 ((s : Int) - 1 - q))) (.int .i64 p)))
            · rw [HE2.out.1, HE2.out.2]
              exact blk_setCell (k := 1) (blk_setCell (k := 0) ((Below.heap_setCell _ _ _ _ (by simp)).trans ((Below.heap_setCell _ _ _ _ (by simp)).trans HI2.out)) (.int .i64 ((s : Int) - 1 - q2))) (.int .i64 p2)
            · exact ((((HIB.out.setCell (p := ⟨na, 0, none⟩) (Nat.le_refl _) _).setCell (p := ⟨na, 1, none⟩) (Nat.le_refl _) _).setCell (p := ⟨na + 1, 0, none⟩) (Nat.le_succ _) _).setCell (p := ⟨na + 1, 1, none⟩) (Nat.le_succ _) _)
          case measure => simp [intOf]; omega
        · obtain rfl : j = tn := by omega
          have htj : decide ((j : Int) < (j : Int)) = false := by simp
          have HAJ : Hid (Acc elDomino w w.heap.size wr (.slice A1 k ca) ys) := HA3.out.below (by rw [HNA.out]; exact HIB.out)
          go_wp2_with fail
          refine (HOV.out _).mono ?_
          rintro e w5 ⟨rfl, hb5⟩
          have HA5 := Lib.hid (HAJ.out.below hb5)
          clear f0 f1 f2 f3 f4 f5 hb5
          go_upto_region 15 with (fail)
          obtain ⟨V9, hV9, k9, hb9⟩ := one_alloc w5 (triO nx ny nd 46)
          rw [← hV9]
          have HA9 := Lib.hid (HA5.out.below hb9)
          obtain ⟨g0, g1, g2⟩ := tri_cells k9
          clear hV9 k9 hb9
          go_wp2_with (at_builtin; refine wpList_push okDomino rfl _ _ rfl HA9.out rfl (nx, ny, nd) _ rfl _ rfl rfl (by omega) ?_; intro v10 w10 HA10 HG10)
          go_roundw
          case rel => exact ⟨k + 1, _, by omega, by go_num, rfl, by rw [HMV.out]; exact HA10⟩
          case measure => simp [intOf]; omega
    · obtain rfl : k = ls.length := by omega
      have ht : decide ((ls.length : Int) < (ls.length : Int)) = false := by simp
      have HRD := Lib.hid (HA.out.1.rd okDomino)
      have HML := Lib.hid hml
      clear hml
      have HBA := Lib.hid HA.out.2.1
      go_wp2_with fail
      refine (specSortDominoes_any _ (mv ls.length) _ _ HRD.out (Nat.le_refl _)).mono ?_
      rintro e w9 ⟨u9, rfl, ho9, hb9⟩
      have ho9 : OwnF elDomino w9 wr.heap.size u9 (sortI (mv ls.length) ls.length) := by rw [HML.out] at ho9; exact ho9
      have HO9 := Lib.hid (ho9.mono HBA.out.size)
      have HB9 := Lib.hid (HBA.out.trans (hb9.mono HBA.out.size))
      clear ho9 hb9
      go_wp2_with fail
      go_ret
      exact ⟨_, rfl, HO9.out, HB9.out⟩
end Go.Proofs.Ytehnbalbpfmijaa

namespace Go.Proofs.Ytehnbalbpfmijaa
open Go.RowKit
set_option linter.unusedVariables false

theorem lst_tab : ([2, 4].all fun s => decide (lstO (setZ (rectZ s s)) 20 [] 300 = some (allT s))) = true := by decide +kernel
theorem lst_sq {s : Nat} (hs : s = 2 ∨ s = 4) : lstO (setZ (rectZ s s)) 20 [] 300 = some (allT s) := by
  have h := List.all_eq_true.1 lst_tab s (by rcases hs with rfl | rfl <;> simp)
  exact of_decide_eq_true h
theorem til_tab : ([2, 4].all fun s => (allT s).all fun ls => fltB (s : Nat) (s : Nat) ls) = true := by decide +kernel
theorem til_sq {s : Nat} (hs : s = 2 ∨ s = 4) {ls : List Lk} (h : ls ∈ allT s) : fltB (s : Nat) (s : Nat) ls = true :=
  List.all_eq_true.1 (List.all_eq_true.1 til_tab s (by rcases hs with rfl | rfl <;> simp)) ls h
theorem seen_tab : ([2, 4].all fun s => (allT s).all fun ls => (List.range 4).all fun t => [false, true].all fun m => decide (seenZ (s : Nat) ls t m = lmZ m t (s : Nat) ls)) = true := by decide +kernel
theorem seen_sq {s : Nat} (hs : s = 2 ∨ s = 4) {ls : List Lk} (h : ls ∈ allT s) {t : Nat} (ht : t ≤ 3) (m : Bool) : seenZ (s : Nat) ls t m = lmZ m t (s : Nat) ls := by
  have h1 := List.all_eq_true.1 (List.all_eq_true.1 (List.all_eq_true.1 (List.all_eq_true.1 seen_tab s (by rcases hs with rfl | rfl <;> simp)) ls h) t (by simp; omega)) m (by cases m <;> simp)
  exact of_decide_eq_true h1
end Go.Proofs.Ytehnbalbpfmijaa
