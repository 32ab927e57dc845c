/- What the claim's walk rests on: parts MovS. -/
import Derived.Test.YtehnbalbpfmijaaKFlt15
import Derived.Test.YtehnbalbpfmijaaKFlt13
import Derived.Test.YtehnbalbpfmijaaKFlt6
namespace Go.Proofs.Ytehnbalbpfmijaa
open Go.RowKit
set_option linter.unusedVariables false

theorem TwoC.of {V : World} {a b : Nat} {x y x2 y2 : Int} {t t' : TypeId} (k1 : V.heap[a]? = some (.cells #[.int .i64 x, .int .i64 y] t (0, 0))) (k2 : V.heap[b]? = some (.cells #[.int .i64 x2, .int .i64 y2] t' (0, 0))) : V.cell? ⟨a, 0, none⟩ = some (.int .i64 x) ∧ V.cell? ⟨a, 1, none⟩ = some (.int .i64 y) ∧ V.cell? ⟨b, 0, none⟩ = some (.int .i64 x2) ∧ V.cell? ⟨b, 1, none⟩ = some (.int .i64 y2) ∧ (∀ o, V.frozen? ⟨a, o, none⟩ = false) ∧ ∀ o, V.frozen? ⟨b, o, none⟩ = false :=
  ⟨by rw [blk_cell k1]; rfl, by rw [blk_cell k1]; rfl, by rw [blk_cell k2]; rfl, by rw [blk_cell k2]; rfl, fun o => blk_free k1, fun o => blk_free k2⟩
set_option maxRecDepth 100000 in
set_option maxHeartbeats 2000000 in
theorem l19Square_any (s : Int) (v : Value) (ls : List Lk) (B : Nat) (w : World) (h : RdF elDomino w B v ls) (hB : B ≤ w.heap.size) :
    Calls Try.prog 66 #[.int .i64 s, v] w fun e w' => e = .returned (.bool (fltB s s ls)) ∧ Below w.heap.size w w' := by
  cases t1 : inB s 1 8
  · have HF : Hid (false = fltB s s ls) := by unfold Hid fltB; simp [t1]
    go_enter Try.func66, Try.ntmps66
    go_wp2_with fail
    refine (l01In_any _ _ _ _).mono ?_
    rintro e w' ⟨rfl, rfl⟩
    rw [t1]
    go_wp2_with fail
    go_ret
    exact ⟨ret_bool HF.out, Below.refl _ _⟩
  · have ha := (inB_iff _ _ _).1 t1
    obtain ⟨s, rfl⟩ := Int.eq_ofNat_of_zero_le (show 0 ≤ s by omega)
    have HF : Hid (sTileB (setZ (rectZ s s)) ls = fltB s s ls) := by unfold Hid fltB; simp [t1]
    have HOK := Lib.hid (rectZ_ok s s (by omega) (by omega))
    have HV := Lib.hid h
    clear h
    generalize fltB (s : Int) s ls = r at *
    go_enter Try.func66, Try.ntmps66
    go_wp2_with fail
    refine (l01In_any _ _ _ _).mono ?_
    rintro e w' ⟨rfl, rfl⟩
    rw [t1]
    go_wp2_with fail
    refine (specRectangle_yes s s (by omega) (by omega) _).mono ?_
    rintro e w1 ⟨u1, rfl, hr1, hb1⟩
    have HR1 := Lib.hid hr1
    have HB1 := Lib.hid hb1
    clear hb1 hr1
    go_wp2_with fail
    refine (specIsTiling_yes _ _ _ ls _ _ HR1.out ((HV.out.below (HB1.out.mono hB)).more (Nat.le_trans hB HB1.out.size)) (Nat.le_refl _) HOK.out).mono ?_
    rintro e w2 ⟨rfl, hb2⟩
    rw [HF.out]
    have HB2 := Lib.hid (HB1.out.trans (hb2.mono HB1.out.size))
    go_wp2_with fail
    go_ret
    exact ⟨rfl, HB2.out⟩

set_option maxRecDepth 100000 in
set_option maxHeartbeats 8000000 in
theorem l19Moved_turn (s : Nat) (v : Value) (ls : List Lk) (B : Nat) (w : World) (h : RdF elDomino w B v ls) (hB : B ≤ w.heap.size) (hf : fltB s s ls = true) :
    Calls Try.prog 67 #[.int .i64 (s : Int), v, .int .i64 1, .bool false] w fun e w' => ∃ u, e = .returned u ∧ OwnF elDomino w' w.heap.size u (movZ true s ls) ∧ Below w.heap.size w w' := by
  have HZ : Hid (movZ true s ls = sortI (movTo true s ls ls.length) ls.length) := by unfold Hid movZ; rw [hf]; rfl
  rw [HZ.out]
  obtain ⟨hs1, hs2, ht⟩ := fltB_nat hf
  have hls := tile_short hs2 ht
  have HIN := Lib.hid (fun k (hk : k < ls.length) => tile_in hs2 ht hk)
  have HLEN := Lib.hid (movTo_len true (s : Int) ls)
  have HMS : Hid (∀ k, movTo true (s : Int) ls (k + 1) = movTo true (s : Int) ls k ++ [movL true (s : Int) (dAt ls k)]) := fun k => rfl
  have HM0 : Hid (movTo true (s : Int) ls 0 = []) := rfl
  obtain ⟨mv, HMV0⟩ : ∃ mv, Hid (mv = movTo true (s : Int) ls) := ⟨_, rfl⟩
  rw [← HMV0.out] at HMS HM0 HLEN ⊢
  obtain ⟨A, c, rfl, g1, g2, G3⟩ := RdT.of (E := elDomino) rfl (fun _ => rfl) h
  unfold maxLen at g2
  have HA0 : Hid (Acc elDomino w w.heap.size (w.alloc (.cells #[] 46)) (.slice (some ⟨w.heap.size, 0, none⟩) 0 0) []) := Acc.start w
  clear ht h hf HMV0 HZ
  go_enter Try.func67, Try.ntmps67
  go_wp2_with fail
  go_loopw [9, 10] (fun o i wr => ∃ (k : Nat) (u : Value), k ≤ ls.length ∧ i = .int .i64 (k : Int) ∧ u = o ∧ Hid (Acc elDomino w w.heap.size wr u (mv k))) (fun _ i _ => ls.length - (intOf i).toNat)
  case atStart => exact ⟨0, _, Nat.zero_le _, rfl, rfl, by rw [HM0.out]; exact HA0⟩
  case round =>
    obtain ⟨k, u, hk, rfl, rfl, HA⟩ := hrel
    obtain ⟨A1, ca, hv, q1, q2, _⟩ := HA.out.1.rd okDomino
    have hml := HLEN.out k
    rw [hml] at hv q1
    subst hv
    unfold maxLen at q2
    by_cases hlt : k < ls.length
    · have ht : decide ((k : Int) < (ls.length : Int)) = true := by simp only [decide_eq_true_eq]; omega
      obtain ⟨ad, rfl, hbl, hx, hy, hz⟩ := G3.out k hlt
      have hbl2 : (ad.add (k * 3)).block < w.heap.size := by rw [addBlock]; omega
      have hbw := HA.out.2.1
      have hx' := (hbw.cell (p := ad.add (k * 3)) hbl2).trans hx
      have hy' := (hbw.cell (p := ⟨(ad.add (k * 3)).block, (ad.add (k * 3)).off + 1, none⟩) hbl2).trans hy
      have hz' := (hbw.cell (p := ⟨(ad.add (k * 3)).block, (ad.add (k * 3)).off + 2, none⟩) hbl2).trans hz
      obtain ⟨hd, hxb, hyb, hxb2, hyb2⟩ := HIN.out k hlt
      have hnx := snd_next hd
      have HMK : Hid (mv (k + 1) = mv k ++ [overL (mapC true s (lx ls k) (ly ls k)).1 (mapC true s (lx ls k) (ly ls k)).2 (mapC true s (sndX (lx ls k) (ld ls k)) (sndY (ly ls k) (ld ls k))).1 (mapC true s (sndX (lx ls k) (ld ls k)) (sndY (ly ls k) (ld ls k))).2]) := HMS.out k
      have HOV0 := Lib.hid (fun V => specDominoOver_yes _ _ _ _ (next_mov true hs2 hxb hyb hxb2 hyb2 hnx) V)
      have HEN := Lib.hid (fun V => CellsUnder_yes (lx ls k) (ly ls k) (ld ls k) V hd)
      have hk0 : (0 : Int) ≤ (k : Int) := by omega
      have hk1 : (k : Int) < (ls.length : Int) := by omega
      generalize sndX (lx ls k) (ld ls k) = x2 at *
      generalize sndY (ly ls k) (ld ls k) = y2 at *
      generalize lx ls k = x at *
      generalize ly ls k = y at *
      generalize ld ls k = d at *
      obtain ⟨nx, ny, nd, HON⟩ : ∃ nx ny nd, Hid (overL (mapC true s x y).1 (mapC true s x y).2 (mapC true s x2 y2).1 (mapC true s x2 y2).2 = (nx, ny, nd)) := ⟨_, _, _, rfl⟩
      have HMV : Hid (mv (k + 1) = mv k ++ [(nx, ny, nd)]) := by unfold Hid; rw [HMK.out, HON.out]
      obtain ⟨mx, my, HMA⟩ : ∃ mx my, Hid (mapC true s x y = (mx, my)) := ⟨_, _, rfl⟩
      obtain ⟨mx2, my2, HMB⟩ : ∃ mx2 my2, Hid (mapC true s x2 y2 = (mx2, my2)) := ⟨_, _, rfl⟩
      have HOV : Hid (∀ V, Calls Try.prog 133 #[spotV mx my, spotV mx2 my2] V fun e w' => e = .returned (.tuple #[triV nx ny nd, .bool true]) ∧ Below V.heap.size V w') := by
        have h9 := HOV0.out
        rw [HON.out, HMA.out, HMB.out] at h9
        exact h9
      have hm32 : (mv k).length ≤ 32 := by rw [hml]; omega
      generalize mv k = ys at *
      have hc1 : IntKind.i64.wrap ((s : Int) - 1) = (s : Int) - 1 := IntWalk.i64_in _ (by omega)
      have hc2 : IntKind.i64.wrap ((s : Int) - 1 - y) = mx := by have h9 := HMA.out; unfold mapC at h9; simp at h9; rw [IntWalk.i64_in _ (by omega)]; omega
      have hc3 : IntKind.i64.wrap ((s : Int) - 1 - y2) = mx2 := by have h9 := HMB.out; unfold mapC at h9; simp at h9; rw [IntWalk.i64_in _ (by omega)]; omega
      have hc4 : my = x := by have h9 := HMA.out; unfold mapC at h9; simp at h9; omega
      have hc5 : my2 = x2 := by have h9 := HMB.out; unfold mapC at h9; simp at h9; omega
      obtain rfl := hc4
      obtain rfl := hc5
      clear hx hy hz hbw HMK HOV0 HON hnx hd hml HMA HMB
      go_wp2_with fail
      refine (HEN.out _).mono ?_
      rintro e w3 ⟨rfl, hb3⟩
      have HA3 := Lib.hid (HA.out.below hb3)
      clear hb3 hx' hy' hz'
      go_upto_region 6 with (fail)
      obtain ⟨V, hV, k1, k2, hbV⟩ := two_alloc w3 (.cells #[.int .i64 my, .int .i64 y] 44) (.cells #[.int .i64 my2, .int .i64 y2] 44)
      rw [← hV]
      obtain ⟨na, hna⟩ : ∃ na, w3.heap.size = na := ⟨_, rfl⟩
      have HNA := Lib.hid hna
      rw [hna] at k1 k2 hbV ⊢
      obtain ⟨f0, f1, f2, f3, f4, f5⟩ := TwoC.of k1 k2
      have HK1 := Lib.hid k1; have HK2 := Lib.hid k2
      have HBV : Hid (Below na w3 V) := hbV
      clear hV k1 k2 hbV hna
      have hw5 : (1 : Int) - 1 = 0 := rfl
      go_wp2_with fail
      go_loopw [13] (fun i wr2 => ∃ j : Nat, j ≤ 1 ∧ i = .int .i64 (j : Int) ∧ Hid (wr2.heap[na]? = some (.cells #[.int .i64 (if j = 0 then my else mx), .int .i64 (if j = 0 then y else my)] 44 (0, 0))) ∧ Hid (wr2.heap[na + 1]? = some (.cells #[.int .i64 (if j = 0 then my2 else mx2), .int .i64 (if j = 0 then y2 else my2)] 44 (0, 0))) ∧ Hid (Below na w3 wr2)) (fun i _ => 1 - (intOf i).toNat)
      case atStart => exact ⟨0, by omega, rfl, HK1, HK2, HBV⟩
      case round =>
        obtain ⟨j, hj, rfl, HJ1, HJ2, HJB⟩ := hrel
        clear f0 f1 f2 f3 f4 f5
        obtain ⟨f0, f1, f2, f3, f4, f5⟩ := TwoC.of HJ1.out HJ2.out
        by_cases hj0 : j = 0
        · subst hj0
          have HQ1 := Lib.hid (blk_setCell (k := 1) (blk_setCell (k := 0) HJ1.out (.int .i64 mx)) (.int .i64 my))
          simp only [if_true] at f0 f1 f2 f3
          go_wp2_with fail
          go_roundw
          case rel =>
            refine ⟨1, by omega, rfl, ?_, ?_, ?_⟩
            · exact (Below.heap_setCell _ _ _ _ (by simp)).trans ((Below.heap_setCell _ _ _ _ (by simp)).trans (blk_setCell (k := 1) (blk_setCell (k := 0) HJ1.out (.int .i64 mx)) (.int .i64 my)))
            · exact blk_setCell (k := 1) (blk_setCell (k := 0) ((Below.heap_setCell _ _ _ _ (by simp)).trans ((Below.heap_setCell _ _ _ _ (by simp)).trans HJ2.out)) (.int .i64 mx2)) (.int .i64 my2)
            · exact ((((HJB.out.setCell (p := ⟨na, 0, none⟩) (Nat.le_refl _) _).setCell (p := ⟨na, 1, none⟩) (Nat.le_refl _) _).setCell (p := ⟨na + 1, 0, none⟩) (Nat.le_succ _) _).setCell (p := ⟨na + 1, 1, none⟩) (Nat.le_succ _) _)
          case measure => simp [intOf]
        · obtain rfl : j = 1 := by omega
          simp only [Nat.one_ne_zero, if_false] at f0 f1 f2 f3
          have HAJ : Hid (Acc elDomino w w.heap.size wr (.slice A1 k ca) ys) := HA3.out.below (by rw [HNA.out]; exact HJB.out)
          go_wp2_with fail
          refine (HOV.out _).mono ?_
          rintro e w5 ⟨rfl, hb5⟩
          have HA5 := Lib.hid (HAJ.out.below hb5)
          clear f0 f1 f2 f3 f4 f5 hb5
          go_upto_region 15 with (fail)
          obtain ⟨V9, hV9, k9, hb9⟩ := one_alloc w5 (triO nx ny nd 46)
          rw [← hV9]
          have HA9 := Lib.hid (HA5.out.below hb9)
          obtain ⟨g0, g1, g2⟩ := tri_cells k9
          clear hV9 k9 hb9
          go_wp2_with (at_builtin; refine wpList_push okDomino rfl _ _ rfl HA9.out rfl (nx, ny, nd) _ rfl _ rfl rfl (by omega) ?_; intro v10 w10 HA10 HG10)
          go_roundw
          case rel => exact ⟨k + 1, _, by omega, by go_num, rfl, by rw [HMV.out]; exact HA10⟩
          case measure => simp [intOf]; omega
    · obtain rfl : k = ls.length := by omega
      have ht : decide ((ls.length : Int) < (ls.length : Int)) = false := by simp
      have HRD := Lib.hid (HA.out.1.rd okDomino)
      have HML := Lib.hid hml
      clear hml
      have HBA := Lib.hid HA.out.2.1
      go_wp2_with fail
      refine (specSortDominoes_any _ (mv ls.length) _ _ HRD.out (Nat.le_refl _)).mono ?_
      rintro e w9 ⟨u9, rfl, ho9, hb9⟩
      have ho9 : OwnF elDomino w9 wr.heap.size u9 (sortI (mv ls.length) ls.length) := by rw [HML.out] at ho9; exact ho9
      have HO9 := Lib.hid (ho9.mono HBA.out.size)
      have HB9 := Lib.hid (HBA.out.trans (hb9.mono HBA.out.size))
      clear ho9 hb9
      go_wp2_with fail
      go_ret
      exact ⟨_, rfl, HO9.out, HB9.out⟩

set_option maxRecDepth 100000 in
set_option maxHeartbeats 8000000 in
theorem l19Moved_mirror (s : Nat) (v : Value) (ls : List Lk) (B : Nat) (w : World) (h : RdF elDomino w B v ls) (hB : B ≤ w.heap.size) (hf : fltB s s ls = true) :
    Calls Try.prog 67 #[.int .i64 (s : Int), v, .int .i64 0, .bool true] w fun e w' => ∃ u, e = .returned u ∧ OwnF elDomino w' w.heap.size u (movZ false s ls) ∧ Below w.heap.size w w' := by
  have HZ : Hid (movZ false s ls = sortI (movTo false s ls ls.length) ls.length) := by unfold Hid movZ; rw [hf]; rfl
  rw [HZ.out]
  obtain ⟨hs1, hs2, ht⟩ := fltB_nat hf
  have hls := tile_short hs2 ht
  have HIN := Lib.hid (fun k (hk : k < ls.length) => tile_in hs2 ht hk)
  have HLEN := Lib.hid (movTo_len false (s : Int) ls)
  have HMS : Hid (∀ k, movTo false (s : Int) ls (k + 1) = movTo false (s : Int) ls k ++ [movL false (s : Int) (dAt ls k)]) := fun k => rfl
  have HM0 : Hid (movTo false (s : Int) ls 0 = []) := rfl
  obtain ⟨mv, HMV0⟩ : ∃ mv, Hid (mv = movTo false (s : Int) ls) := ⟨_, rfl⟩
  rw [← HMV0.out] at HMS HM0 HLEN ⊢
  obtain ⟨A, c, rfl, g1, g2, G3⟩ := RdT.of (E := elDomino) rfl (fun _ => rfl) h
  unfold maxLen at g2
  have HA0 : Hid (Acc elDomino w w.heap.size (w.alloc (.cells #[] 46)) (.slice (some ⟨w.heap.size, 0, none⟩) 0 0) []) := Acc.start w
  clear ht h hf HMV0 HZ
  go_enter Try.func67, Try.ntmps67
  go_wp2_with fail
  go_loopw [9, 10] (fun o i wr => ∃ (k : Nat) (u : Value), k ≤ ls.length ∧ i = .int .i64 (k : Int) ∧ u = o ∧ Hid (Acc elDomino w w.heap.size wr u (mv k))) (fun _ i _ => ls.length - (intOf i).toNat)
  case atStart => exact ⟨0, _, Nat.zero_le _, rfl, rfl, by rw [HM0.out]; exact HA0⟩
  case round =>
    obtain ⟨k, u, hk, rfl, rfl, HA⟩ := hrel
    obtain ⟨A1, ca, hv, q1, q2, _⟩ := HA.out.1.rd okDomino
    have hml := HLEN.out k
    rw [hml] at hv q1
    subst hv
    unfold maxLen at q2
    by_cases hlt : k < ls.length
    · have ht : decide ((k : Int) < (ls.length : Int)) = true := by simp only [decide_eq_true_eq]; omega
      obtain ⟨ad, rfl, hbl, hx, hy, hz⟩ := G3.out k hlt
      have hbl2 : (ad.add (k * 3)).block < w.heap.size := by rw [addBlock]; omega
      have hbw := HA.out.2.1
      have hx' := (hbw.cell (p := ad.add (k * 3)) hbl2).trans hx
      have hy' := (hbw.cell (p := ⟨(ad.add (k * 3)).block, (ad.add (k * 3)).off + 1, none⟩) hbl2).trans hy
      have hz' := (hbw.cell (p := ⟨(ad.add (k * 3)).block, (ad.add (k * 3)).off + 2, none⟩) hbl2).trans hz
      obtain ⟨hd, hxb, hyb, hxb2, hyb2⟩ := HIN.out k hlt
      have hnx := snd_next hd
      have HMK : Hid (mv (k + 1) = mv k ++ [overL (mapC false s (lx ls k) (ly ls k)).1 (mapC false s (lx ls k) (ly ls k)).2 (mapC false s (sndX (lx ls k) (ld ls k)) (sndY (ly ls k) (ld ls k))).1 (mapC false s (sndX (lx ls k) (ld ls k)) (sndY (ly ls k) (ld ls k))).2]) := HMS.out k
      have HOV0 := Lib.hid (fun V => specDominoOver_yes _ _ _ _ (next_mov false hs2 hxb hyb hxb2 hyb2 hnx) V)
      have HEN := Lib.hid (fun V => CellsUnder_yes (lx ls k) (ly ls k) (ld ls k) V hd)
      have hk0 : (0 : Int) ≤ (k : Int) := by omega
      have hk1 : (k : Int) < (ls.length : Int) := by omega
      generalize sndX (lx ls k) (ld ls k) = x2 at *
      generalize sndY (ly ls k) (ld ls k) = y2 at *
      generalize lx ls k = x at *
      generalize ly ls k = y at *
      generalize ld ls k = d at *
      obtain ⟨nx, ny, nd, HON⟩ : ∃ nx ny nd, Hid (overL (mapC false s x y).1 (mapC false s x y).2 (mapC false s x2 y2).1 (mapC false s x2 y2).2 = (nx, ny, nd)) := ⟨_, _, _, rfl⟩
      have HMV : Hid (mv (k + 1) = mv k ++ [(nx, ny, nd)]) := by unfold Hid; rw [HMK.out, HON.out]
      obtain ⟨mx, my, HMA⟩ : ∃ mx my, Hid (mapC false s x y = (mx, my)) := ⟨_, _, rfl⟩
      obtain ⟨mx2, my2, HMB⟩ : ∃ mx2 my2, Hid (mapC false s x2 y2 = (mx2, my2)) := ⟨_, _, rfl⟩
      have HOV : Hid (∀ V, Calls Try.prog 133 #[spotV mx my, spotV mx2 my2] V fun e w' => e = .returned (.tuple #[triV nx ny nd, .bool true]) ∧ Below V.heap.size V w') := by
        have h9 := HOV0.out
        rw [HON.out, HMA.out, HMB.out] at h9
        exact h9
      have hm32 : (mv k).length ≤ 32 := by rw [hml]; omega
      generalize mv k = ys at *
      have hc1 : IntKind.i64.wrap ((s : Int) - 1) = (s : Int) - 1 := IntWalk.i64_in _ (by omega)
      have hc2 : IntKind.i64.wrap ((s : Int) - 1 - x) = mx := by have h9 := HMA.out; unfold mapC at h9; simp at h9; rw [IntWalk.i64_in _ (by omega)]; omega
      have hc3 : IntKind.i64.wrap ((s : Int) - 1 - x2) = mx2 := by have h9 := HMB.out; unfold mapC at h9; simp at h9; rw [IntWalk.i64_in _ (by omega)]; omega
      have hc4 : my = y := by have h9 := HMA.out; unfold mapC at h9; simp at h9; omega
      have hc5 : my2 = y2 := by have h9 := HMB.out; unfold mapC at h9; simp at h9; omega
      obtain rfl := hc4
      obtain rfl := hc5
      clear hx hy hz hbw HMK HOV0 HON hnx hd hml HMA HMB
      go_wp2_with fail
      refine (HEN.out _).mono ?_
      rintro e w3 ⟨rfl, hb3⟩
      have HA3 := Lib.hid (HA.out.below hb3)
      clear hb3 hx' hy' hz'
      go_upto_region 6 with (fail)
      obtain ⟨V, hV, k1, k2, hbV⟩ := two_alloc w3 (.cells #[.int .i64 x, .int .i64 my] 44) (.cells #[.int .i64 x2, .int .i64 my2] 44)
      rw [← hV]
      obtain ⟨na, hna⟩ : ∃ na, w3.heap.size = na := ⟨_, rfl⟩
      have HNA := Lib.hid hna
      rw [hna] at k1 k2 hbV ⊢
      obtain ⟨f0, f1, f2, f3, f4, f5⟩ := TwoC.of k1 k2
      have HK1 := Lib.hid k1; have HK2 := Lib.hid k2
      have HBV : Hid (Below na w3 V) := hbV
      clear hV k1 k2 hbV hna
      go_wp2_with fail
      obtain ⟨V8, HV8⟩ : ∃ V8, Hid (V8 = (V.setCell ⟨na, 0, none⟩ (.int .i64 mx)).setCell ⟨na + 1, 0, none⟩ (.int .i64 mx2)) := ⟨_, rfl⟩
      rw [← HV8.out]
      have HJ1 : Hid (V8.heap[na]? = some (.cells #[.int .i64 mx, .int .i64 my] 44 (0, 0))) := by unfold Hid; rw [HV8.out]; exact (Below.heap_setCell _ _ _ _ (by simp)).trans (blk_setCell (k := 0) HK1.out (.int .i64 mx))
      have HJ2 : Hid (V8.heap[na + 1]? = some (.cells #[.int .i64 mx2, .int .i64 my2] 44 (0, 0))) := by unfold Hid; rw [HV8.out]; exact blk_setCell (k := 0) ((Below.heap_setCell _ _ _ _ (by simp)).trans HK2.out) (.int .i64 mx2)
      have HJB : Hid (Below na w3 V8) := by unfold Hid; rw [HV8.out]; exact (HBV.out.setCell (p := ⟨na, 0, none⟩) (Nat.le_refl _) _).setCell (p := ⟨na + 1, 0, none⟩) (Nat.le_succ _) _
      clear f0 f1 f2 f3 f4 f5 HV8
      go_loopw [13] (fun i wr2 => i = .int .i64 0 ∧ wr2 = V8) (fun i _ => 0)
      case atStart => exact ⟨rfl, rfl⟩
      case round =>
        obtain ⟨rfl, rfl⟩ := hrel
        obtain ⟨f0, f1, f2, f3, f4, f5⟩ := TwoC.of HJ1.out HJ2.out
        · skip
          have HAJ : Hid (Acc elDomino w w.heap.size wr (.slice A1 k ca) ys) := HA3.out.below (by rw [HNA.out]; exact HJB.out)
          go_wp2_with fail
          refine (HOV.out _).mono ?_
          rintro e w5 ⟨rfl, hb5⟩
          have HA5 := Lib.hid (HAJ.out.below hb5)
          clear f0 f1 f2 f3 f4 f5 hb5
          go_upto_region 15 with (fail)
          obtain ⟨V9, hV9, k9, hb9⟩ := one_alloc w5 (triO nx ny nd 46)
          rw [← hV9]
          have HA9 := Lib.hid (HA5.out.below hb9)
          obtain ⟨g0, g1, g2⟩ := tri_cells k9
          clear hV9 k9 hb9
          go_wp2_with (at_builtin; refine wpList_push okDomino rfl _ _ rfl HA9.out rfl (nx, ny, nd) _ rfl _ rfl rfl (by omega) ?_; intro v10 w10 HA10 HG10)
          go_roundw
          case rel => exact ⟨k + 1, _, by omega, by go_num, rfl, by rw [HMV.out]; exact HA10⟩
          case measure => simp [intOf]; omega
    · obtain rfl : k = ls.length := by omega
      have ht : decide ((ls.length : Int) < (ls.length : Int)) = false := by simp
      have HRD := Lib.hid (HA.out.1.rd okDomino)
      have HML := Lib.hid hml
      clear hml
      have HBA := Lib.hid HA.out.2.1
      go_wp2_with fail
      refine (specSortDominoes_any _ (mv ls.length) _ _ HRD.out (Nat.le_refl _)).mono ?_
      rintro e w9 ⟨u9, rfl, ho9, hb9⟩
      have ho9 : OwnF elDomino w9 wr.heap.size u9 (sortI (mv ls.length) ls.length) := by rw [HML.out] at ho9; exact ho9
      have HO9 := Lib.hid (ho9.mono HBA.out.size)
      have HB9 := Lib.hid (HBA.out.trans (hb9.mono HBA.out.size))
      clear ho9 hb9
      go_wp2_with fail
      go_ret
      exact ⟨_, rfl, HO9.out, HB9.out⟩

set_option maxRecDepth 100000 in
set_option maxHeartbeats 4000000 in
theorem specTurnTiling_any (s : Int) (v : Value) (ls : List Lk) (B : Nat) (w : World) (h : RdF elDomino w B v ls) (hB : B ≤ w.heap.size) :
    Calls Try.prog 18 #[.int .i64 s, v] w (RetTiling w (fltB s s ls) (movZ true s ls)) := by
  have HV := Lib.hid h
  have HSQ := Lib.hid (l19Square_any s v ls B w h hB)
  cases hf : fltB s s ls
  · have HZ : Hid (movZ true s ls = []) := by unfold Hid movZ; rw [hf]; rfl
    rw [HZ.out]
    rw [hf] at HSQ
    clear h hf HZ
    go_enter Try.func18, Try.ntmps18
    go_wp2_with fail
    refine HSQ.out.mono ?_
    rintro e w1 ⟨rfl, hb1⟩
    have HO : Hid (OwnF elDomino (w1.alloc (.cells #[] 46)) w.heap.size (.slice (some ⟨w1.heap.size, 0, none⟩) 0 0) []) := OwnF.empty hb1.size
    have HB1 : Hid (Below w.heap.size w (w1.alloc (.cells #[] 46))) := hb1.alloc hb1.size _
    clear hb1
    go_wp2_with fail
    exact bodyPost_ret (v := .tuple #[.slice (some ⟨w1.heap.size, 0, none⟩) 0 0, .bool false]) (by simp [results, Try.results18, go_sem]) rfl ⟨_, rfl, HO.out, HB1.out⟩
  · obtain ⟨s, rfl⟩ : ∃ n : Nat, s = (n : Int) := by
      have h9 := hf
      unfold fltB at h9
      simp only [Bool.and_eq_true, inB_iff] at h9
      exact ⟨s.toNat, by omega⟩
    rw [hf] at HSQ
    have HC := Lib.hid (fun (W : World) (hb : Below w.heap.size w W) => l19Moved_turn s v ls B W (HV.out.below (hb.mono hB)) (Nat.le_trans hB hb.size) hf)
    generalize movZ true (s : Int) ls = zs at *
    clear h hf
    go_enter Try.func18, Try.ntmps18
    go_wp2_with fail
    refine HSQ.out.mono ?_
    rintro e w1 ⟨rfl, hb1⟩
    have HB0 := Lib.hid hb1
    clear hb1
    go_wp2_with fail
    refine (HC.out _ HB0.out).mono ?_
    rintro e w2 ⟨u1, rfl, ho1, hb1⟩
    have HO1 := Lib.hid (ho1.mono HB0.out.size)
    have HB1 := Lib.hid (HB0.out.trans (hb1.mono HB0.out.size))
    clear ho1 hb1
    go_wp2_with fail
    exact bodyPost_ret (v := .tuple #[u1, .bool true]) (by simp [results, Try.results18, go_sem]) rfl ⟨_, rfl, HO1.out, HB1.out⟩

end Go.Proofs.Ytehnbalbpfmijaa
