/- What the claim's walk rests on: parts MovS, MovG, FixV, TxtB, TxtZ, StrM, Shl, TxtS. -/
import Derived.Test.YtehnbalbpfmijaaDoorKa8
import Derived.Test.YtehnbalbpfmijaaDoorKa10
import Derived.Test.YtehnbalbpfmijaaDoorKa1
import Derived.Test.YtehnbalbpfmijaaDoorProg
import Derived.Lib.Join
import Derived.Lib.ItoaNum
import Derived.Maps.OwnOps
import Derived.Maps.Views
import Derived.Shelf.Strconv.Itoa3
import Derived.Shelf.Strings.OnBuilder
import Derived.BigQuiet
namespace Go.Proofs.YtehnbalbpfmijaaDoor
open Go.RowKit
set_option linter.unusedVariables false

theorem TwoC.of {V : World} {a b : Nat} {x y x2 y2 : Int} {t t' : TypeId} (k1 : V.heap[a]? = some (.cells #[.int .i64 x, .int .i64 y] t (0, 0))) (k2 : V.heap[b]? = some (.cells #[.int .i64 x2, .int .i64 y2] t' (0, 0))) : V.cell? ⟨a, 0, none⟩ = some (.int .i64 x) ∧ V.cell? ⟨a, 1, none⟩ = some (.int .i64 y) ∧ V.cell? ⟨b, 0, none⟩ = some (.int .i64 x2) ∧ V.cell? ⟨b, 1, none⟩ = some (.int .i64 y2) ∧ (∀ o, V.frozen? ⟨a, o, none⟩ = false) ∧ ∀ o, V.frozen? ⟨b, o, none⟩ = false :=
  ⟨by rw [blk_cell k1]; rfl, by rw [blk_cell k1]; rfl, by rw [blk_cell k2]; rfl, by rw [blk_cell k2]; rfl, fun o => blk_free k1, fun o => blk_free k2⟩
set_option maxRecDepth 100000 in
set_option maxHeartbeats 8000000 in
theorem l19Moved_turn (s : Nat) (v : Value) (ls : List Lk) (B : Nat) (w : World) (h : RdF elDomino w B v ls) (hB : B ≤ w.heap.size) (hf : fltB s s ls = true) :
    Calls Tryd.prog 9 #[.int .i64 (s : Int), v, .int .i64 1, .bool false] w fun e w' => ∃ u, e = .returned u ∧ OwnF elDomino w' w.heap.size u (movZ true s ls) ∧ Below w.heap.size w w' := by
  have HZ : Hid (movZ true s ls = sortI (movTo true s ls ls.length) ls.length) := by unfold Hid movZ; rw [hf]; rfl
  rw [HZ.out]
  obtain ⟨hs1, hs2, ht⟩ := fltB_nat hf
  have hls := tile_short hs2 ht
  have HIN := Lib.hid (fun k (hk : k < ls.length) => tile_in hs2 ht hk)
  have HLEN := Lib.hid (movTo_len true (s : Int) ls)
  have HMS : Hid (∀ k, movTo true (s : Int) ls (k + 1) = movTo true (s : Int) ls k ++ [movL true (s : Int) (dAt ls k)]) := fun k => rfl
  have HM0 : Hid (movTo true (s : Int) ls 0 = []) := rfl
  obtain ⟨mv, HMV0⟩ : ∃ mv, Hid (mv = movTo true (s : Int) ls) := ⟨_, rfl⟩
  rw [← HMV0.out] at HMS HM0 HLEN ⊢
  obtain ⟨A, c, rfl, g1, g2, G3⟩ := RdT.of (E := elDomino) rfl (fun _ => rfl) h
  unfold maxLen at g2
  have HA0 : Hid (Acc elDomino w w.heap.size (w.alloc (.cells #[] 39)) (.slice (some ⟨w.heap.size, 0, none⟩) 0 0) []) := Acc.start w
  clear ht h hf HMV0 HZ
  go_enter Tryd.func9, Tryd.ntmps9
  go_wp2_with fail
  go_loopw [9, 10] (fun o i wr => ∃ (k : Nat) (u : Value), k ≤ ls.length ∧ i = .int .i64 (k : Int) ∧ u = o ∧ Hid (Acc elDomino w w.heap.size wr u (mv k))) (fun _ i _ => ls.length - (intOf i).toNat)
  case atStart => exact ⟨0, _, Nat.zero_le _, rfl, rfl, by rw [HM0.out]; exact HA0⟩
  case round =>
    obtain ⟨k, u, hk, rfl, rfl, HA⟩ := hrel
    obtain ⟨A1, ca, hv, q1, q2, _⟩ := HA.out.1.rd okDomino
    have hml := HLEN.out k
    rw [hml] at hv q1
    subst hv
    unfold maxLen at q2
    by_cases hlt : k < ls.length
    · have ht : decide ((k : Int) < (ls.length : Int)) = true := by simp only [decide_eq_true_eq]; omega
      obtain ⟨ad, rfl, hbl, hx, hy, hz⟩ := G3.out k hlt
      have hbl2 : (ad.add (k * 3)).block < w.heap.size := by rw [addBlock]; omega
      have hbw := HA.out.2.1
      have hx' := (hbw.cell (p := ad.add (k * 3)) hbl2).trans hx
      have hy' := (hbw.cell (p := ⟨(ad.add (k * 3)).block, (ad.add (k * 3)).off + 1, none⟩) hbl2).trans hy
      have hz' := (hbw.cell (p := ⟨(ad.add (k * 3)).block, (ad.add (k * 3)).off + 2, none⟩) hbl2).trans hz
      obtain ⟨hd, hxb, hyb, hxb2, hyb2⟩ := HIN.out k hlt
      have hnx := snd_next hd
      have HMK : Hid (mv (k + 1) = mv k ++ [overL (mapC true s (lx ls k) (ly ls k)).1 (mapC true s (lx ls k) (ly ls k)).2 (mapC true s (sndX (lx ls k) (ld ls k)) (sndY (ly ls k) (ld ls k))).1 (mapC true s (sndX (lx ls k) (ld ls k)) (sndY (ly ls k) (ld ls k))).2]) := HMS.out k
      have HOV0 := Lib.hid (fun V => specDominoOver_yes _ _ _ _ (next_mov true hs2 hxb hyb hxb2 hyb2 hnx) V)
      have HEN := Lib.hid (fun V => CellsUnder_yes (lx ls k) (ly ls k) (ld ls k) V hd)
      have hk0 : (0 : Int) ≤ (k : Int) := by omega
      have hk1 : (k : Int) < (ls.length : Int) := by omega
      generalize sndX (lx ls k) (ld ls k) = x2 at *
      generalize sndY (ly ls k) (ld ls k) = y2 at *
      generalize lx ls k = x at *
      generalize ly ls k = y at *
      generalize ld ls k = d at *
      obtain ⟨nx, ny, nd, HON⟩ : ∃ nx ny nd, Hid (overL (mapC true s x y).1 (mapC true s x y).2 (mapC true s x2 y2).1 (mapC true s x2 y2).2 = (nx, ny, nd)) := ⟨_, _, _, rfl⟩
      have HMV : Hid (mv (k + 1) = mv k ++ [(nx, ny, nd)]) := by unfold Hid; rw [HMK.out, HON.out]
      obtain ⟨mx, my, HMA⟩ : ∃ mx my, Hid (mapC true s x y = (mx, my)) := ⟨_, _, rfl⟩
      obtain ⟨mx2, my2, HMB⟩ : ∃ mx2 my2, Hid (mapC true s x2 y2 = (mx2, my2)) := ⟨_, _, rfl⟩
      have HOV : Hid (∀ V, Calls Tryd.prog 18 #[spotV mx my, spotV mx2 my2] V fun e w' => e = .returned (.tuple #[triV nx ny nd, .bool true]) ∧ Below V.heap.size V w') := by
        have h9 := HOV0.out
        rw [HON.out, HMA.out, HMB.out] at h9
        exact h9
      have hm32 : (mv k).length ≤ 32 := by rw [hml]; omega
      generalize mv k = ys at *
      have hc1 : IntKind.i64.wrap ((s : Int) - 1) = (s : Int) - 1 := IntWalk.i64_in _ (by omega)
      have hc2 : IntKind.i64.wrap ((s : Int) - 1 - y) = mx := by have h9 := HMA.out; unfold mapC at h9; simp at h9; rw [IntWalk.i64_in _ (by omega)]; omega
      have hc3 : IntKind.i64.wrap ((s : Int) - 1 - y2) = mx2 := by have h9 := HMB.out; unfold mapC at h9; simp at h9; rw [IntWalk.i64_in _ (by omega)]; omega
      have hc4 : my = x := by have h9 := HMA.out; unfold mapC at h9; simp at h9; omega
      have hc5 : my2 = x2 := by have h9 := HMB.out; unfold mapC at h9; simp at h9; omega
      obtain rfl := hc4
      obtain rfl := hc5
      clear hx hy hz hbw HMK HOV0 HON hnx hd hml HMA HMB
      go_wp2_with fail
      refine (HEN.out _).mono ?_
      rintro e w3 ⟨rfl, hb3⟩
      have HA3 := Lib.hid (HA.out.below hb3)
      clear hb3 hx' hy' hz'
      go_upto_region 6 with (fail)
      obtain ⟨V, hV, k1, k2, hbV⟩ := two_alloc w3 (.cells #[.int .i64 my, .int .i64 y] 41) (.cells #[.int .i64 my2, .int .i64 y2] 41)
      rw [← hV]
      obtain ⟨na, hna⟩ : ∃ na, w3.heap.size = na := ⟨_, rfl⟩
      have HNA := Lib.hid hna
      rw [hna] at k1 k2 hbV ⊢
      obtain ⟨f0, f1, f2, f3, f4, f5⟩ := TwoC.of k1 k2
      have HK1 := Lib.hid k1; have HK2 := Lib.hid k2
      have HBV : Hid (Below na w3 V) := hbV
      clear hV k1 k2 hbV hna
      have hw5 : (1 : Int) - 1 = 0 := rfl
      go_wp2_with fail
      go_loopw [13] (fun i wr2 => ∃ j : Nat, j ≤ 1 ∧ i = .int .i64 (j : Int) ∧ Hid (wr2.heap[na]? = some (.cells #[.int .i64 (if j = 0 then my else mx), .int .i64 (if j = 0 then y else my)] 41 (0, 0))) ∧ Hid (wr2.heap[na + 1]? = some (.cells #[.int .i64 (if j = 0 then my2 else mx2), .int .i64 (if j = 0 then y2 else my2)] 41 (0, 0))) ∧ Hid (Below na w3 wr2)) (fun i _ => 1 - (intOf i).toNat)
      case atStart => exact ⟨0, by omega, rfl, HK1, HK2, HBV⟩
      case round =>
        obtain ⟨j, hj, rfl, HJ1, HJ2, HJB⟩ := hrel
        clear f0 f1 f2 f3 f4 f5
        obtain ⟨f0, f1, f2, f3, f4, f5⟩ := TwoC.of HJ1.out HJ2.out
        by_cases hj0 : j = 0
        · subst hj0
          have HQ1 := Lib.hid (blk_setCell (k := 1) (blk_setCell (k := 0) HJ1.out (.int .i64 mx)) (.int .i64 my))
          simp only [if_true] at f0 f1 f2 f3
          go_wp2_with fail
          go_roundw
          case rel =>
            refine ⟨1, by omega, rfl, ?_, ?_, ?_⟩
            · exact (Below.heap_setCell _ _ _ _ (by simp)).trans ((Below.heap_setCell _ _ _ _ (by simp)).trans (blk_setCell (k := 1) (blk_setCell (k := 0) HJ1.out (.int .i64 mx)) (.int .i64 my)))
            · exact blk_setCell (k := 1) (blk_setCell (k := 0) ((Below.heap_setCell _ _ _ _ (by simp)).trans ((Below.heap_setCell _ _ _ _ (by simp)).trans HJ2.out)) (.int .i64 mx2)) (.int .i64 my2)
            · exact ((((HJB.out.setCell (p := ⟨na, 0, none⟩) (Nat.le_refl _) _).setCell (p := ⟨na, 1, none⟩) (Nat.le_refl _) _).setCell (p := ⟨na + 1, 0, none⟩) (Nat.le_succ _) _).setCell (p := ⟨na + 1, 1, none⟩) (Nat.le_succ _) _)
          case measure => simp [intOf]
        · obtain rfl : j = 1 := by omega
          simp only [Nat.one_ne_zero, if_false] at f0 f1 f2 f3
          have HAJ : Hid (Acc elDomino w w.heap.size wr (.slice A1 k ca) ys) := HA3.out.below (by rw [HNA.out]; exact HJB.out)
          go_wp2_with fail
          refine (HOV.out _).mono ?_
          rintro e w5 ⟨rfl, hb5⟩
          have HA5 := Lib.hid (HAJ.out.below hb5)
          clear f0 f1 f2 f3 f4 f5 hb5
          go_upto_region 15 with (fail)
          obtain ⟨V9, hV9, k9, hb9⟩ := one_alloc w5 (triO nx ny nd 39)
          rw [← hV9]
          have HA9 := Lib.hid (HA5.out.below hb9)
          obtain ⟨g0, g1, g2⟩ := tri_cells k9
          clear hV9 k9 hb9
          go_wp2_with (at_builtin; refine wpList_push okDomino rfl _ _ rfl HA9.out rfl (nx, ny, nd) _ rfl _ rfl rfl (by omega) ?_; intro v10 w10 HA10 HG10)
          go_roundw
          case rel => exact ⟨k + 1, _, by omega, by go_num, rfl, by rw [HMV.out]; exact HA10⟩
          case measure => simp [intOf]; omega
    · obtain rfl : k = ls.length := by omega
      have ht : decide ((ls.length : Int) < (ls.length : Int)) = false := by simp
      have HRD := Lib.hid (HA.out.1.rd okDomino)
      have HML := Lib.hid hml
      clear hml
      have HBA := Lib.hid HA.out.2.1
      go_wp2_with fail
      refine (specSortDominoes_any _ (mv ls.length) _ _ HRD.out (Nat.le_refl _)).mono ?_
      rintro e w9 ⟨u9, rfl, ho9, hb9⟩
      have ho9 : OwnF elDomino w9 wr.heap.size u9 (sortI (mv ls.length) ls.length) := by rw [HML.out] at ho9; exact ho9
      have HO9 := Lib.hid (ho9.mono HBA.out.size)
      have HB9 := Lib.hid (HBA.out.trans (hb9.mono HBA.out.size))
      clear ho9 hb9
      go_wp2_with fail
      go_ret
      exact ⟨_, rfl, HO9.out, HB9.out⟩

set_option maxRecDepth 100000 in
set_option maxHeartbeats 8000000 in
theorem l19Moved_mirror (s : Nat) (v : Value) (ls : List Lk) (B : Nat) (w : World) (h : RdF elDomino w B v ls) (hB : B ≤ w.heap.size) (hf : fltB s s ls = true) :
    Calls Tryd.prog 9 #[.int .i64 (s : Int), v, .int .i64 0, .bool true] w fun e w' => ∃ u, e = .returned u ∧ OwnF elDomino w' w.heap.size u (movZ false s ls) ∧ Below w.heap.size w w' := by
  have HZ : Hid (movZ false s ls = sortI (movTo false s ls ls.length) ls.length) := by unfold Hid movZ; rw [hf]; rfl
  rw [HZ.out]
  obtain ⟨hs1, hs2, ht⟩ := fltB_nat hf
  have hls := tile_short hs2 ht
  have HIN := Lib.hid (fun k (hk : k < ls.length) => tile_in hs2 ht hk)
  have HLEN := Lib.hid (movTo_len false (s : Int) ls)
  have HMS : Hid (∀ k, movTo false (s : Int) ls (k + 1) = movTo false (s : Int) ls k ++ [movL false (s : Int) (dAt ls k)]) := fun k => rfl
  have HM0 : Hid (movTo false (s : Int) ls 0 = []) := rfl
  obtain ⟨mv, HMV0⟩ : ∃ mv, Hid (mv = movTo false (s : Int) ls) := ⟨_, rfl⟩
  rw [← HMV0.out] at HMS HM0 HLEN ⊢
  obtain ⟨A, c, rfl, g1, g2, G3⟩ := RdT.of (E := elDomino) rfl (fun _ => rfl) h
  unfold maxLen at g2
  have HA0 : Hid (Acc elDomino w w.heap.size (w.alloc (.cells #[] 39)) (.slice (some ⟨w.heap.size, 0, none⟩) 0 0) []) := Acc.start w
  clear ht h hf HMV0 HZ
  go_enter Tryd.func9, Tryd.ntmps9
  go_wp2_with fail
  go_loopw [9, 10] (fun o i wr => ∃ (k : Nat) (u : Value), k ≤ ls.length ∧ i = .int .i64 (k : Int) ∧ u = o ∧ Hid (Acc elDomino w w.heap.size wr u (mv k))) (fun _ i _ => ls.length - (intOf i).toNat)
  case atStart => exact ⟨0, _, Nat.zero_le _, rfl, rfl, by rw [HM0.out]; exact HA0⟩
  case round =>
    obtain ⟨k, u, hk, rfl, rfl, HA⟩ := hrel
    obtain ⟨A1, ca, hv, q1, q2, _⟩ := HA.out.1.rd okDomino
    have hml := HLEN.out k
    rw [hml] at hv q1
    subst hv
    unfold maxLen at q2
    by_cases hlt : k < ls.length
    · have ht : decide ((k : Int) < (ls.length : Int)) = true := by simp only [decide_eq_true_eq]; omega
      obtain ⟨ad, rfl, hbl, hx, hy, hz⟩ := G3.out k hlt
      have hbl2 : (ad.add (k * 3)).block < w.heap.size := by rw [addBlock]; omega
      have hbw := HA.out.2.1
      have hx' := (hbw.cell (p := ad.add (k * 3)) hbl2).trans hx
      have hy' := (hbw.cell (p := ⟨(ad.add (k * 3)).block, (ad.add (k * 3)).off + 1, none⟩) hbl2).trans hy
      have hz' := (hbw.cell (p := ⟨(ad.add (k * 3)).block, (ad.add (k * 3)).off + 2, none⟩) hbl2).trans hz
      obtain ⟨hd, hxb, hyb, hxb2, hyb2⟩ := HIN.out k hlt
      have hnx := snd_next hd
      have HMK : Hid (mv (k + 1) = mv k ++ [overL (mapC false s (lx ls k) (ly ls k)).1 (mapC false s (lx ls k) (ly ls k)).2 (mapC false s (sndX (lx ls k) (ld ls k)) (sndY (ly ls k) (ld ls k))).1 (mapC false s (sndX (lx ls k) (ld ls k)) (sndY (ly ls k) (ld ls k))).2]) := HMS.out k
      have HOV0 := Lib.hid (fun V => specDominoOver_yes _ _ _ _ (next_mov false hs2 hxb hyb hxb2 hyb2 hnx) V)
      have HEN := Lib.hid (fun V => CellsUnder_yes (lx ls k) (ly ls k) (ld ls k) V hd)
      have hk0 : (0 : Int) ≤ (k : Int) := by omega
      have hk1 : (k : Int) < (ls.length : Int) := by omega
      generalize sndX (lx ls k) (ld ls k) = x2 at *
      generalize sndY (ly ls k) (ld ls k) = y2 at *
      generalize lx ls k = x at *
      generalize ly ls k = y at *
      generalize ld ls k = d at *
      obtain ⟨nx, ny, nd, HON⟩ : ∃ nx ny nd, Hid (overL (mapC false s x y).1 (mapC false s x y).2 (mapC false s x2 y2).1 (mapC false s x2 y2).2 = (nx, ny, nd)) := ⟨_, _, _, rfl⟩
      have HMV : Hid (mv (k + 1) = mv k ++ [(nx, ny, nd)]) := by unfold Hid; rw [HMK.out, HON.out]
      obtain ⟨mx, my, HMA⟩ : ∃ mx my, Hid (mapC false s x y = (mx, my)) := ⟨_, _, rfl⟩
      obtain ⟨mx2, my2, HMB⟩ : ∃ mx2 my2, Hid (mapC false s x2 y2 = (mx2, my2)) := ⟨_, _, rfl⟩
      have HOV : Hid (∀ V, Calls Tryd.prog 18 #[spotV mx my, spotV mx2 my2] V fun e w' => e = .returned (.tuple #[triV nx ny nd, .bool true]) ∧ Below V.heap.size V w') := by
        have h9 := HOV0.out
        rw [HON.out, HMA.out, HMB.out] at h9
        exact h9
      have hm32 : (mv k).length ≤ 32 := by rw [hml]; omega
      generalize mv k = ys at *
      have hc1 : IntKind.i64.wrap ((s : Int) - 1) = (s : Int) - 1 := IntWalk.i64_in _ (by omega)
      have hc2 : IntKind.i64.wrap ((s : Int) - 1 - x) = mx := by have h9 := HMA.out; unfold mapC at h9; simp at h9; rw [IntWalk.i64_in _ (by omega)]; omega
      have hc3 : IntKind.i64.wrap ((s : Int) - 1 - x2) = mx2 := by have h9 := HMB.out; unfold mapC at h9; simp at h9; rw [IntWalk.i64_in _ (by omega)]; omega
      have hc4 : my = y := by have h9 := HMA.out; unfold mapC at h9; simp at h9; omega
      have hc5 : my2 = y2 := by have h9 := HMB.out; unfold mapC at h9; simp at h9; omega
      obtain rfl := hc4
      obtain rfl := hc5
      clear hx hy hz hbw HMK HOV0 HON hnx hd hml HMA HMB
      go_wp2_with fail
      refine (HEN.out _).mono ?_
      rintro e w3 ⟨rfl, hb3⟩
      have HA3 := Lib.hid (HA.out.below hb3)
      clear hb3 hx' hy' hz'
      go_upto_region 6 with (fail)
      obtain ⟨V, hV, k1, k2, hbV⟩ := two_alloc w3 (.cells #[.int .i64 x, .int .i64 my] 41) (.cells #[.int .i64 x2, .int .i64 my2] 41)
      rw [← hV]
      obtain ⟨na, hna⟩ : ∃ na, w3.heap.size = na := ⟨_, rfl⟩
      have HNA := Lib.hid hna
      rw [hna] at k1 k2 hbV ⊢
      obtain ⟨f0, f1, f2, f3, f4, f5⟩ := TwoC.of k1 k2
      have HK1 := Lib.hid k1; have HK2 := Lib.hid k2
      have HBV : Hid (Below na w3 V) := hbV
      clear hV k1 k2 hbV hna
      go_wp2_with fail
      obtain ⟨V8, HV8⟩ : ∃ V8, Hid (V8 = (V.setCell ⟨na, 0, none⟩ (.int .i64 mx)).setCell ⟨na + 1, 0, none⟩ (.int .i64 mx2)) := ⟨_, rfl⟩
      rw [← HV8.out]
      have HJ1 : Hid (V8.heap[na]? = some (.cells #[.int .i64 mx, .int .i64 my] 41 (0, 0))) := by unfold Hid; rw [HV8.out]; exact (Below.heap_setCell _ _ _ _ (by simp)).trans (blk_setCell (k := 0) HK1.out (.int .i64 mx))
      have HJ2 : Hid (V8.heap[na + 1]? = some (.cells #[.int .i64 mx2, .int .i64 my2] 41 (0, 0))) := by unfold Hid; rw [HV8.out]; exact blk_setCell (k := 0) ((Below.heap_setCell _ _ _ _ (by simp)).trans HK2.out) (.int .i64 mx2)
      have HJB : Hid (Below na w3 V8) := by unfold Hid; rw [HV8.out]; exact (HBV.out.setCell (p := ⟨na, 0, none⟩) (Nat.le_refl _) _).setCell (p := ⟨na + 1, 0, none⟩) (Nat.le_succ _) _
      clear f0 f1 f2 f3 f4 f5 HV8
      go_loopw [13] (fun i wr2 => i = .int .i64 0 ∧ wr2 = V8) (fun i _ => 0)
      case atStart => exact ⟨rfl, rfl⟩
      case round =>
        obtain ⟨rfl, rfl⟩ := hrel
        obtain ⟨f0, f1, f2, f3, f4, f5⟩ := TwoC.of HJ1.out HJ2.out
        · skip
          have HAJ : Hid (Acc elDomino w w.heap.size wr (.slice A1 k ca) ys) := HA3.out.below (by rw [HNA.out]; exact HJB.out)
          go_wp2_with fail
          refine (HOV.out _).mono ?_
          rintro e w5 ⟨rfl, hb5⟩
          have HA5 := Lib.hid (HAJ.out.below hb5)
          clear f0 f1 f2 f3 f4 f5 hb5
          go_upto_region 15 with (fail)
          obtain ⟨V9, hV9, k9, hb9⟩ := one_alloc w5 (triO nx ny nd 39)
          rw [← hV9]
          have HA9 := Lib.hid (HA5.out.below hb9)
          obtain ⟨g0, g1, g2⟩ := tri_cells k9
          clear hV9 k9 hb9
          go_wp2_with (at_builtin; refine wpList_push okDomino rfl _ _ rfl HA9.out rfl (nx, ny, nd) _ rfl _ rfl rfl (by omega) ?_; intro v10 w10 HA10 HG10)
          go_roundw
          case rel => exact ⟨k + 1, _, by omega, by go_num, rfl, by rw [HMV.out]; exact HA10⟩
          case measure => simp [intOf]; omega
    · obtain rfl : k = ls.length := by omega
      have ht : decide ((ls.length : Int) < (ls.length : Int)) = false := by simp
      have HRD := Lib.hid (HA.out.1.rd okDomino)
      have HML := Lib.hid hml
      clear hml
      have HBA := Lib.hid HA.out.2.1
      go_wp2_with fail
      refine (specSortDominoes_any _ (mv ls.length) _ _ HRD.out (Nat.le_refl _)).mono ?_
      rintro e w9 ⟨u9, rfl, ho9, hb9⟩
      have ho9 : OwnF elDomino w9 wr.heap.size u9 (sortI (mv ls.length) ls.length) := by rw [HML.out] at ho9; exact ho9
      have HO9 := Lib.hid (ho9.mono HBA.out.size)
      have HB9 := Lib.hid (HBA.out.trans (hb9.mono HBA.out.size))
      clear ho9 hb9
      go_wp2_with fail
      go_ret
      exact ⟨_, rfl, HO9.out, HB9.out⟩

end Go.Proofs.YtehnbalbpfmijaaDoor

namespace Go.Proofs.YtehnbalbpfmijaaDoor
open Go.RowKit
set_option linter.unusedVariables false

/-- A cell, mirrored (m) and turned k times. -/
def mapK (m : Bool) (s : Int) : Nat → Int → Int → Int × Int
  | 0, x, y => if m then (s - 1 - x, y) else (x, y)
  | k + 1, x, y => (s - 1 - (mapK m s k x y).2, (mapK m s k x y).1)
def lmL (m : Bool) (k : Nat) (s : Int) (l : Lk) : Lk :=
  overL (mapK m s k l.1 l.2.1).1 (mapK m s k l.1 l.2.1).2 (mapK m s k (sndX l.1 l.2.2) (sndY l.2.1 l.2.2)).1 (mapK m s k (sndX l.1 l.2.2) (sndY l.2.1 l.2.2)).2
def lmTo (m : Bool) (k : Nat) (s : Int) (ls : List Lk) : Nat → List Lk
  | 0 => []
  | j + 1 => lmTo m k s ls j ++ [lmL m k s (dAt ls j)]
theorem lmTo_len (m : Bool) (k : Nat) (s : Int) (ls : List Lk) : ∀ j, (lmTo m k s ls j).length = j
  | 0 => rfl
  | j + 1 => by rw [lmTo, List.length_append, lmTo_len m k s ls j]; rfl
/-- What l19Moved returns for a tiling of the square. -/
def lmZ (m : Bool) (k : Nat) (s : Int) (ls : List Lk) : List Lk := sortI (lmTo m k s ls ls.length) ls.length
theorem mapK_in (m : Bool) (s : Int) {x y : Int} (h1 : 0 ≤ x ∧ x < s) (h2 : 0 ≤ y ∧ y < s) : ∀ k, (0 ≤ (mapK m s k x y).1 ∧ (mapK m s k x y).1 < s) ∧ 0 ≤ (mapK m s k x y).2 ∧ (mapK m s k x y).2 < s
  | 0 => by cases m <;> simp [mapK] <;> omega
  | k + 1 => by
    obtain ⟨⟨a, b⟩, c, d⟩ := mapK_in m s h1 h2 k
    simp only [mapK]
    omega
def adjB (x y x2 y2 : Int) : Prop := (x = x2 ∧ (y2 = y + 1 ∨ y = y2 + 1)) ∨ (y = y2 ∧ (x2 = x + 1 ∨ x = x2 + 1))
theorem mapK_adj (m : Bool) (s : Int) {x y x2 y2 : Int} (h : adjB x y x2 y2) : ∀ k, adjB (mapK m s k x y).1 (mapK m s k x y).2 (mapK m s k x2 y2).1 (mapK m s k x2 y2).2
  | 0 => by unfold adjB at h ⊢; cases m <;> simp [mapK] <;> omega
  | k + 1 => by
    have ih := mapK_adj m s h k
    unfold adjB at ih ⊢
    simp only [mapK]
    omega
theorem next_mapK (m : Bool) (k : Nat) {s : Nat} (hs : s ≤ 8) {x y x2 y2 : Int} (h1 : 0 ≤ x ∧ x < s) (h2 : 0 ≤ y ∧ y < s) (h3 : 0 ≤ x2 ∧ x2 < s) (h4 : 0 ≤ y2 ∧ y2 < s) (h : (x2 = x ∧ y2 = y + 1) ∨ (x2 = x + 1 ∧ y2 = y)) :
    nextB (mapK m s k x y).1 (mapK m s k x y).2 (mapK m s k x2 y2).1 (mapK m s k x2 y2).2 := by
  obtain ⟨⟨a, b⟩, c, d⟩ := mapK_in m s h1 h2 k
  obtain ⟨⟨a', b'⟩, c', d'⟩ := mapK_in m s h3 h4 k
  have ha := mapK_adj m s (x := x) (y := y) (x2 := x2) (y2 := y2) (by unfold adjB; omega) k
  unfold adjB at ha
  unfold nextB
  omega

set_option maxRecDepth 100000 in
set_option maxHeartbeats 8000000 in
theorem l19Moved_false (s : Nat) (v : Value) (ls : List Lk) (tn : Nat) (htn : tn ≤ 3) (B : Nat) (w : World) (h : RdF elDomino w B v ls) (hB : B ≤ w.heap.size) (hf : fltB s s ls = true) :
    Calls Tryd.prog 9 #[.int .i64 (s : Int), v, .int .i64 (tn : Int), .bool false] w fun e w' => ∃ u, e = .returned u ∧ OwnF elDomino w' w.heap.size u (lmZ false tn s ls) ∧ Below w.heap.size w w' := by
  have HZ : Hid (lmZ false tn s ls = sortI (lmTo false tn s ls ls.length) ls.length) := rfl
  rw [HZ.out]
  obtain ⟨hs1, hs2, ht⟩ := fltB_nat hf
  have hls := tile_short hs2 ht
  have HIN := Lib.hid (fun k (hk : k < ls.length) => tile_in hs2 ht hk)
  have HLEN := Lib.hid (lmTo_len false tn (s : Int) ls)
  have HMS : Hid (∀ k, lmTo false tn (s : Int) ls (k + 1) = lmTo false tn (s : Int) ls k ++ [lmL false tn (s : Int) (dAt ls k)]) := fun k => rfl
  have HM0 : Hid (lmTo false tn (s : Int) ls 0 = []) := rfl
  obtain ⟨mv, HMV0⟩ : ∃ mv, Hid (mv = lmTo false tn (s : Int) ls) := ⟨_, rfl⟩
  rw [← HMV0.out] at HMS HM0 HLEN ⊢
  obtain ⟨A, c, rfl, g1, g2, G3⟩ := RdT.of (E := elDomino) rfl (fun _ => rfl) h
  unfold maxLen at g2
  have HA0 : Hid (Acc elDomino w w.heap.size (w.alloc (.cells #[] 39)) (.slice (some ⟨w.heap.size, 0, none⟩) 0 0) []) := Acc.start w
  clear ht h hf HMV0 HZ
  go_enter Tryd.func9, Tryd.ntmps9
  go_wp2_with fail
  go_loopw [9, 10] (fun o i wr => ∃ (k : Nat) (u : Value), k ≤ ls.length ∧ i = .int .i64 (k : Int) ∧ u = o ∧ Hid (Acc elDomino w w.heap.size wr u (mv k))) (fun _ i _ => ls.length - (intOf i).toNat)
  case atStart => exact ⟨0, _, Nat.zero_le _, rfl, rfl, by rw [HM0.out]; exact HA0⟩
  case round =>
    obtain ⟨k, u, hk, rfl, rfl, HA⟩ := hrel
    obtain ⟨A1, ca, hv, q1, q2, _⟩ := HA.out.1.rd okDomino
    have hml := HLEN.out k
    rw [hml] at hv q1
    subst hv
    unfold maxLen at q2
    by_cases hlt : k < ls.length
    · have ht : decide ((k : Int) < (ls.length : Int)) = true := by simp only [decide_eq_true_eq]; omega
      obtain ⟨ad, rfl, hbl, hx, hy, hz⟩ := G3.out k hlt
      have hbl2 : (ad.add (k * 3)).block < w.heap.size := by rw [addBlock]; omega
      have hbw := HA.out.2.1
      have hx' := (hbw.cell (p := ad.add (k * 3)) hbl2).trans hx
      have hy' := (hbw.cell (p := ⟨(ad.add (k * 3)).block, (ad.add (k * 3)).off + 1, none⟩) hbl2).trans hy
      have hz' := (hbw.cell (p := ⟨(ad.add (k * 3)).block, (ad.add (k * 3)).off + 2, none⟩) hbl2).trans hz
      obtain ⟨hd, hxb, hyb, hxb2, hyb2⟩ := HIN.out k hlt
      have hnx := snd_next hd
      have HMK := Lib.hid (HMS.out k)
      unfold lmL dAt at HMK
      have HOV0 := Lib.hid (fun V => specDominoOver_yes _ _ _ _ (next_mapK false tn hs2 hxb hyb hxb2 hyb2 hnx) V)
      have HEN := Lib.hid (fun V => CellsUnder_yes (lx ls k) (ly ls k) (ld ls k) V hd)
      have hk0 : (0 : Int) ≤ (k : Int) := by omega
      have hk1 : (k : Int) < (ls.length : Int) := by omega
      generalize sndX (lx ls k) (ld ls k) = x2 at *
      generalize sndY (ly ls k) (ld ls k) = y2 at *
      generalize lx ls k = x at *
      generalize ly ls k = y at *
      generalize ld ls k = d at *
      have HMIN := Lib.hid (mapK_in false s hxb hyb)
      have HMIN2 := Lib.hid (mapK_in false s hxb2 hyb2)
      have HMST : Hid (∀ j, mapK false s (j + 1) x y = (s - 1 - (mapK false s j x y).2, (mapK false s j x y).1)) := fun j => rfl
      have HMST2 : Hid (∀ j, mapK false s (j + 1) x2 y2 = (s - 1 - (mapK false s j x2 y2).2, (mapK false s j x2 y2).1)) := fun j => rfl
      have HMZ : Hid (mapK false s 0 x y = (x, y)) := rfl
      have HMZ2 : Hid (mapK false s 0 x2 y2 = (x2, y2)) := rfl
      obtain ⟨mk, HMKF⟩ : ∃ mk : Nat → Int × Int, Hid (mk = fun j => mapK false s j x y) := ⟨_, rfl⟩
      obtain ⟨mk2, HMKF2⟩ : ∃ mk2 : Nat → Int × Int, Hid (mk2 = fun j => mapK false s j x2 y2) := ⟨_, rfl⟩
      have e1 : ∀ j, mapK false (s : Int) j x y = mk j := fun j => by rw [HMKF.out]
      have e2 : ∀ j, mapK false (s : Int) j x2 y2 = mk2 j := fun j => by rw [HMKF2.out]
      simp only [e1, e2, Hid] at HMK HOV0 HMIN HMIN2 HMST HMST2 HMZ HMZ2
      replace HMK := Lib.hid HMK; replace HOV0 := Lib.hid HOV0; replace HMIN := Lib.hid HMIN; replace HMIN2 := Lib.hid HMIN2
      replace HMST := Lib.hid HMST; replace HMST2 := Lib.hid HMST2; replace HMZ := Lib.hid HMZ; replace HMZ2 := Lib.hid HMZ2
      clear e1 e2 HMKF HMKF2
      obtain ⟨nx, ny, nd, HON⟩ : ∃ nx ny nd, Hid (overL (mk tn).1 (mk tn).2 (mk2 tn).1 (mk2 tn).2 = (nx, ny, nd)) := ⟨_, _, _, rfl⟩
      have HMV : Hid (mv (k + 1) = mv k ++ [(nx, ny, nd)]) := by unfold Hid; rw [HMK.out, HON.out]
      have HOV : Hid (∀ V, Calls Tryd.prog 18 #[spotV (mk tn).1 (mk tn).2, spotV (mk2 tn).1 (mk2 tn).2] V fun e w' => e = .returned (.tuple #[triV nx ny nd, .bool true]) ∧ Below V.heap.size V w') := by
        have h9 := HOV0.out
        rw [HON.out] at h9
        exact h9
      have hm32 : (mv k).length ≤ 32 := by rw [hml]; omega
      generalize mv k = ys at *
      have hc1 : IntKind.i64.wrap ((s : Int) - 1) = (s : Int) - 1 := IntWalk.i64_in _ (by omega)
      clear hx hy hz hbw HMK HOV0 HON hnx hd hml
      go_wp2_with fail
      refine (HEN.out _).mono ?_
      rintro e w3 ⟨rfl, hb3⟩
      have HA3 := Lib.hid (HA.out.below hb3)
      clear hb3 hx' hy' hz'
      go_upto_region 6 with (fail)
      obtain ⟨V, hV, k1, k2, hbV⟩ := two_alloc w3 (.cells #[.int .i64 x, .int .i64 y] 41) (.cells #[.int .i64 x2, .int .i64 y2] 41)
      rw [← hV]
      obtain ⟨na, hna⟩ : ∃ na, w3.heap.size = na := ⟨_, rfl⟩
      have HNA := Lib.hid hna
      rw [hna] at k1 k2 hbV ⊢
      obtain ⟨f0, f1, f2, f3, f4, f5⟩ := TwoC.of k1 k2
      have HK1 := Lib.hid k1; have HK2 := Lib.hid k2
      have HBV : Hid (Below na w3 V) := hbV
      clear hV k1 k2 hbV hna
      have HJ1 : Hid (V.heap[na]? = some (.cells #[.int .i64 (mk 0).1, .int .i64 (mk 0).2] 41 (0, 0))) := by unfold Hid; rw [HMZ.out]; exact HK1.out
      have HJ2 : Hid (V.heap[na + 1]? = some (.cells #[.int .i64 (mk2 0).1, .int .i64 (mk2 0).2] 41 (0, 0))) := by unfold Hid; rw [HMZ2.out]; exact HK2.out
      have HJB := Lib.hid HBV.out
      go_wp2_with fail
      clear f0 f1 f2 f3 f4 f5
      go_loopw [13] (fun i wr2 => ∃ j : Nat, j ≤ tn ∧ i = .int .i64 (j : Int) ∧ Hid (wr2.heap[na]? = some (.cells #[.int .i64 (mk j).1, .int .i64 (mk j).2] 41 (0, 0))) ∧ Hid (wr2.heap[na + 1]? = some (.cells #[.int .i64 (mk2 j).1, .int .i64 (mk2 j).2] 41 (0, 0))) ∧ Hid (Below na w3 wr2)) (fun i _ => tn - (intOf i).toNat)
      case atStart => exact ⟨0, by omega, rfl, HJ1, HJ2, HJB⟩
      case round =>
        obtain ⟨j, hj, rfl, HI1, HI2, HIB⟩ := hrel
        obtain ⟨f0, f1, f2, f3, f4, f5⟩ := TwoC.of HI1.out HI2.out
        by_cases hjt : j < tn
        · have htj : decide ((j : Int) < (tn : Int)) = true := by simp only [decide_eq_true_eq]; omega
          have hin := HMIN.out j
          have hin2 := HMIN2.out j
          have hst := HMST.out j
          have hst2 := HMST2.out j
          have HE1 : Hid ((mk (j + 1)).1 = s - 1 - (mk j).2 ∧ (mk (j + 1)).2 = (mk j).1) := by rw [hst]; exact ⟨rfl, rfl⟩
          have HE2 : Hid ((mk2 (j + 1)).1 = s - 1 - (mk2 j).2 ∧ (mk2 (j + 1)).2 = (mk2 j).1) := by rw [hst2]; exact ⟨rfl, rfl⟩
          clear hst hst2
          generalize (mk j).1 = p at *
          generalize (mk j).2 = q at *
          generalize (mk2 j).1 = p2 at *
          generalize (mk2 j).2 = q2 at *
          have hc2 : IntKind.i64.wrap ((s : Int) - 1 - q) = (s : Int) - 1 - q := IntWalk.i64_in _ (by omega)
          have hc3 : IntKind.i64.wrap ((s : Int) - 1 - q2) = (s : Int) - 1 - q2 := IntWalk.i64_in _ (by omega)
          have HQ1 := Lib.hid (blk_setCell (k := 1) (blk_setCell (k := 0) HI1.out (.int .i64 ((s : Int) - 1 - q))) (.int .i64 p))
          clear hin hin2
          go_wp2_with fail
          go_roundw
          case rel =>
            refine ⟨j + 1, by omega, by go_num, ?_, ?_, ?_⟩
            · rw [HE1.out.1, HE1.out.2]
              exact (Below.heap_setCell _ _ _ _ (by simp)).trans ((Below.heap_setCell _ _ _ _ (by simp)).trans (blk_setCell (k := 1) (blk_setCell (k := 0) HI1.out (.int .i64 ((s : Int) - 1 - q))) (.int .i64 p)))
            · rw [HE2.out.1, HE2.out.2]
              exact blk_setCell (k := 1) (blk_setCell (k := 0) ((Below.heap_setCell _ _ _ _ (by simp)).trans ((Below.heap_setCell _ _ _ _ (by simp)).trans HI2.out)) (.int .i64 ((s : Int) - 1 - q2))) (.int .i64 p2)
            · exact ((((HIB.out.setCell (p := ⟨na, 0, none⟩) (Nat.le_refl _) _).setCell (p := ⟨na, 1, none⟩) (Nat.le_refl _) _).setCell (p := ⟨na + 1, 0, none⟩) (Nat.le_succ _) _).setCell (p := ⟨na + 1, 1, none⟩) (Nat.le_succ _) _)
          case measure => simp [intOf]; omega
        · obtain rfl : j = tn := by omega
          have htj : decide ((j : Int) < (j : Int)) = false := by simp
          have HAJ : Hid (Acc elDomino w w.heap.size wr (.slice A1 k ca) ys) := HA3.out.below (by rw [HNA.out]; exact HIB.out)
          go_wp2_with fail
          refine (HOV.out _).mono ?_
          rintro e w5 ⟨rfl, hb5⟩
          have HA5 := Lib.hid (HAJ.out.below hb5)
          clear f0 f1 f2 f3 f4 f5 hb5
          go_upto_region 15 with (fail)
          obtain ⟨V9, hV9, k9, hb9⟩ := one_alloc w5 (triO nx ny nd 39)
          rw [← hV9]
          have HA9 := Lib.hid (HA5.out.below hb9)
          obtain ⟨g0, g1, g2⟩ := tri_cells k9
          clear hV9 k9 hb9
          go_wp2_with (at_builtin; refine wpList_push okDomino rfl _ _ rfl HA9.out rfl (nx, ny, nd) _ rfl _ rfl rfl (by omega) ?_; intro v10 w10 HA10 HG10)
          go_roundw
          case rel => exact ⟨k + 1, _, by omega, by go_num, rfl, by rw [HMV.out]; exact HA10⟩
          case measure => simp [intOf]; omega
    · obtain rfl : k = ls.length := by omega
      have ht : decide ((ls.length : Int) < (ls.length : Int)) = false := by simp
      have HRD := Lib.hid (HA.out.1.rd okDomino)
      have HML := Lib.hid hml
      clear hml
      have HBA := Lib.hid HA.out.2.1
      go_wp2_with fail
      refine (specSortDominoes_any _ (mv ls.length) _ _ HRD.out (Nat.le_refl _)).mono ?_
      rintro e w9 ⟨u9, rfl, ho9, hb9⟩
      have ho9 : OwnF elDomino w9 wr.heap.size u9 (sortI (mv ls.length) ls.length) := by rw [HML.out] at ho9; exact ho9
      have HO9 := Lib.hid (ho9.mono HBA.out.size)
      have HB9 := Lib.hid (HBA.out.trans (hb9.mono HBA.out.size))
      clear ho9 hb9
      go_wp2_with fail
      go_ret
      exact ⟨_, rfl, HO9.out, HB9.out⟩

set_option maxRecDepth 100000 in
set_option maxHeartbeats 8000000 in
theorem l19Moved_true (s : Nat) (v : Value) (ls : List Lk) (tn : Nat) (htn : tn ≤ 3) (B : Nat) (w : World) (h : RdF elDomino w B v ls) (hB : B ≤ w.heap.size) (hf : fltB s s ls = true) :
    Calls Tryd.prog 9 #[.int .i64 (s : Int), v, .int .i64 (tn : Int), .bool true] w fun e w' => ∃ u, e = .returned u ∧ OwnF elDomino w' w.heap.size u (lmZ true tn s ls) ∧ Below w.heap.size w w' := by
  have HZ : Hid (lmZ true tn s ls = sortI (lmTo true tn s ls ls.length) ls.length) := rfl
  rw [HZ.out]
  obtain ⟨hs1, hs2, ht⟩ := fltB_nat hf
  have hls := tile_short hs2 ht
  have HIN := Lib.hid (fun k (hk : k < ls.length) => tile_in hs2 ht hk)
  have HLEN := Lib.hid (lmTo_len true tn (s : Int) ls)
  have HMS : Hid (∀ k, lmTo true tn (s : Int) ls (k + 1) = lmTo true tn (s : Int) ls k ++ [lmL true tn (s : Int) (dAt ls k)]) := fun k => rfl
  have HM0 : Hid (lmTo true tn (s : Int) ls 0 = []) := rfl
  obtain ⟨mv, HMV0⟩ : ∃ mv, Hid (mv = lmTo true tn (s : Int) ls) := ⟨_, rfl⟩
  rw [← HMV0.out] at HMS HM0 HLEN ⊢
  obtain ⟨A, c, rfl, g1, g2, G3⟩ := RdT.of (E := elDomino) rfl (fun _ => rfl) h
  unfold maxLen at g2
  have HA0 : Hid (Acc elDomino w w.heap.size (w.alloc (.cells #[] 39)) (.slice (some ⟨w.heap.size, 0, none⟩) 0 0) []) := Acc.start w
  clear ht h hf HMV0 HZ
  go_enter Tryd.func9, Tryd.ntmps9
  go_wp2_with fail
  go_loopw [9, 10] (fun o i wr => ∃ (k : Nat) (u : Value), k ≤ ls.length ∧ i = .int .i64 (k : Int) ∧ u = o ∧ Hid (Acc elDomino w w.heap.size wr u (mv k))) (fun _ i _ => ls.length - (intOf i).toNat)
  case atStart => exact ⟨0, _, Nat.zero_le _, rfl, rfl, by rw [HM0.out]; exact HA0⟩
  case round =>
    obtain ⟨k, u, hk, rfl, rfl, HA⟩ := hrel
    obtain ⟨A1, ca, hv, q1, q2, _⟩ := HA.out.1.rd okDomino
    have hml := HLEN.out k
    rw [hml] at hv q1
    subst hv
    unfold maxLen at q2
    by_cases hlt : k < ls.length
    · have ht : decide ((k : Int) < (ls.length : Int)) = true := by simp only [decide_eq_true_eq]; omega
      obtain ⟨ad, rfl, hbl, hx, hy, hz⟩ := G3.out k hlt
      have hbl2 : (ad.add (k * 3)).block < w.heap.size := by rw [addBlock]; omega
      have hbw := HA.out.2.1
      have hx' := (hbw.cell (p := ad.add (k * 3)) hbl2).trans hx
      have hy' := (hbw.cell (p := ⟨(ad.add (k * 3)).block, (ad.add (k * 3)).off + 1, none⟩) hbl2).trans hy
      have hz' := (hbw.cell (p := ⟨(ad.add (k * 3)).block, (ad.add (k * 3)).off + 2, none⟩) hbl2).trans hz
      obtain ⟨hd, hxb, hyb, hxb2, hyb2⟩ := HIN.out k hlt
      have hnx := snd_next hd
      have HMK := Lib.hid (HMS.out k)
      unfold lmL dAt at HMK
      have HOV0 := Lib.hid (fun V => specDominoOver_yes _ _ _ _ (next_mapK true tn hs2 hxb hyb hxb2 hyb2 hnx) V)
      have HEN := Lib.hid (fun V => CellsUnder_yes (lx ls k) (ly ls k) (ld ls k) V hd)
      have hk0 : (0 : Int) ≤ (k : Int) := by omega
      have hk1 : (k : Int) < (ls.length : Int) := by omega
      generalize sndX (lx ls k) (ld ls k) = x2 at *
      generalize sndY (ly ls k) (ld ls k) = y2 at *
      generalize lx ls k = x at *
      generalize ly ls k = y at *
      generalize ld ls k = d at *
      have HMIN := Lib.hid (mapK_in true s hxb hyb)
      have HMIN2 := Lib.hid (mapK_in true s hxb2 hyb2)
      have HMST : Hid (∀ j, mapK true s (j + 1) x y = (s - 1 - (mapK true s j x y).2, (mapK true s j x y).1)) := fun j => rfl
      have HMST2 : Hid (∀ j, mapK true s (j + 1) x2 y2 = (s - 1 - (mapK true s j x2 y2).2, (mapK true s j x2 y2).1)) := fun j => rfl
      have HMZ : Hid (mapK true s 0 x y = ((s : Int) - 1 - x, y)) := rfl
      have HMZ2 : Hid (mapK true s 0 x2 y2 = ((s : Int) - 1 - x2, y2)) := rfl
      obtain ⟨mk, HMKF⟩ : ∃ mk : Nat → Int × Int, Hid (mk = fun j => mapK true s j x y) := ⟨_, rfl⟩
      obtain ⟨mk2, HMKF2⟩ : ∃ mk2 : Nat → Int × Int, Hid (mk2 = fun j => mapK true s j x2 y2) := ⟨_, rfl⟩
      have e1 : ∀ j, mapK true (s : Int) j x y = mk j := fun j => by rw [HMKF.out]
      have e2 : ∀ j, mapK true (s : Int) j x2 y2 = mk2 j := fun j => by rw [HMKF2.out]
      simp only [e1, e2, Hid] at HMK HOV0 HMIN HMIN2 HMST HMST2 HMZ HMZ2
      replace HMK := Lib.hid HMK; replace HOV0 := Lib.hid HOV0; replace HMIN := Lib.hid HMIN; replace HMIN2 := Lib.hid HMIN2
      replace HMST := Lib.hid HMST; replace HMST2 := Lib.hid HMST2; replace HMZ := Lib.hid HMZ; replace HMZ2 := Lib.hid HMZ2
      clear e1 e2 HMKF HMKF2
      obtain ⟨nx, ny, nd, HON⟩ : ∃ nx ny nd, Hid (overL (mk tn).1 (mk tn).2 (mk2 tn).1 (mk2 tn).2 = (nx, ny, nd)) := ⟨_, _, _, rfl⟩
      have HMV : Hid (mv (k + 1) = mv k ++ [(nx, ny, nd)]) := by unfold Hid; rw [HMK.out, HON.out]
      have HOV : Hid (∀ V, Calls Tryd.prog 18 #[spotV (mk tn).1 (mk tn).2, spotV (mk2 tn).1 (mk2 tn).2] V fun e w' => e = .returned (.tuple #[triV nx ny nd, .bool true]) ∧ Below V.heap.size V w') := by
        have h9 := HOV0.out
        rw [HON.out] at h9
        exact h9
      have hm32 : (mv k).length ≤ 32 := by rw [hml]; omega
      generalize mv k = ys at *
      have hc1 : IntKind.i64.wrap ((s : Int) - 1) = (s : Int) - 1 := IntWalk.i64_in _ (by omega)
      clear hx hy hz hbw HMK HOV0 HON hnx hd hml
      go_wp2_with fail
      refine (HEN.out _).mono ?_
      rintro e w3 ⟨rfl, hb3⟩
      have HA3 := Lib.hid (HA.out.below hb3)
      clear hb3 hx' hy' hz'
      go_upto_region 6 with (fail)
      obtain ⟨V, hV, k1, k2, hbV⟩ := two_alloc w3 (.cells #[.int .i64 x, .int .i64 y] 41) (.cells #[.int .i64 x2, .int .i64 y2] 41)
      rw [← hV]
      obtain ⟨na, hna⟩ : ∃ na, w3.heap.size = na := ⟨_, rfl⟩
      have HNA := Lib.hid hna
      rw [hna] at k1 k2 hbV ⊢
      obtain ⟨f0, f1, f2, f3, f4, f5⟩ := TwoC.of k1 k2
      have HK1 := Lib.hid k1; have HK2 := Lib.hid k2
      have HBV : Hid (Below na w3 V) := hbV
      clear hV k1 k2 hbV hna
      have hc2 : IntKind.i64.wrap ((s : Int) - 1 - x) = (s : Int) - 1 - x := IntWalk.i64_in _ (by omega)
      have hc3 : IntKind.i64.wrap ((s : Int) - 1 - x2) = (s : Int) - 1 - x2 := IntWalk.i64_in _ (by omega)
      go_wp2_with fail
      obtain ⟨V8, HV8⟩ : ∃ V8, Hid (V8 = (V.setCell ⟨na, 0, none⟩ (.int .i64 ((s : Int) - 1 - x))).setCell ⟨na + 1, 0, none⟩ (.int .i64 ((s : Int) - 1 - x2))) := ⟨_, rfl⟩
      rw [← HV8.out]
      have HJ1 : Hid (V8.heap[na]? = some (.cells #[.int .i64 (mk 0).1, .int .i64 (mk 0).2] 41 (0, 0))) := by unfold Hid; rw [HMZ.out, HV8.out]; exact (Below.heap_setCell _ _ _ _ (by simp)).trans (blk_setCell (k := 0) HK1.out (.int .i64 ((s : Int) - 1 - x)))
      have HJ2 : Hid (V8.heap[na + 1]? = some (.cells #[.int .i64 (mk2 0).1, .int .i64 (mk2 0).2] 41 (0, 0))) := by unfold Hid; rw [HMZ2.out, HV8.out]; exact blk_setCell (k := 0) ((Below.heap_setCell _ _ _ _ (by simp)).trans HK2.out) (.int .i64 ((s : Int) - 1 - x2))
      have HJB : Hid (Below na w3 V8) := by unfold Hid; rw [HV8.out]; exact (HBV.out.setCell (p := ⟨na, 0, none⟩) (Nat.le_refl _) _).setCell (p := ⟨na + 1, 0, none⟩) (Nat.le_succ _) _
      clear f0 f1 f2 f3 f4 f5 HV8 hc2 hc3
      go_loopw [13] (fun i wr2 => ∃ j : Nat, j ≤ tn ∧ i = .int .i64 (j : Int) ∧ Hid (wr2.heap[na]? = some (.cells #[.int .i64 (mk j).1, .int .i64 (mk j).2] 41 (0, 0))) ∧ Hid (wr2.heap[na + 1]? = some (.cells #[.int .i64 (mk2 j).1, .int .i64 (mk2 j).2] 41 (0, 0))) ∧ Hid (Below na w3 wr2)) (fun i _ => tn - (intOf i).toNat)
      case atStart => exact ⟨0, by omega, rfl, HJ1, HJ2, HJB⟩
      case round =>
        obtain ⟨j, hj, rfl, HI1, HI2, HIB⟩ := hrel
        obtain ⟨f0, f1, f2, f3, f4, f5⟩ := TwoC.of HI1.out HI2.out
        by_cases hjt : j < tn
        · have htj : decide ((j : Int) < (tn : Int)) = true := by simp only [decide_eq_true_eq]; omega
          have hin := HMIN.out j
          have hin2 := HMIN2.out j
          have hst := HMST.out j
          have hst2 := HMST2.out j
          have HE1 : Hid ((mk (j + 1)).1 = s - 1 - (mk j).2 ∧ (mk (j + 1)).2 = (mk j).1) := by rw [hst]; exact ⟨rfl, rfl⟩
          have HE2 : Hid ((mk2 (j + 1)).1 = s - 1 - (mk2 j).2 ∧ (mk2 (j + 1)).2 = (mk2 j).1) := by rw [hst2]; exact ⟨rfl, rfl⟩
          clear hst hst2
          generalize (mk j).1 = p at *
          generalize (mk j).2 = q at *
          generalize (mk2 j).1 = p2 at *
          generalize (mk2 j).2 = q2 at *
          have hc2 : IntKind.i64.wrap ((s : Int) - 1 - q) = (s : Int) - 1 - q := IntWalk.i64_in _ (by omega)
          have hc3 : IntKind.i64.wrap ((s : Int) - 1 - q2) = (s : Int) - 1 - q2 := IntWalk.i64_in _ (by omega)
          have HQ1 := Lib.hid (blk_setCell (k := 1) (blk_setCell (k := 0) HI1.out (.int .i64 ((s : Int) - 1 - q))) (.int .i64 p))
          clear hin hin2
          go_wp2_with fail
          go_roundw
          case rel =>
            refine ⟨j + 1, by omega, by go_num, ?_, ?_, ?_⟩
            · rw [HE1.out.1, HE1.out.2]
              exact (Below.heap_setCell _ _ _ _ (by simp)).trans ((Below.heap_setCell _ _ _ _ (by simp)).trans (blk_setCell (k := 1) (blk_setCell (k := 0) HI1.out (.int .i64 ((s : Int) - 1 - q))) (.int .i64 p)))
            · rw [HE2.out.1, HE2.out.2]
              exact blk_setCell (k := 1) (blk_setCell (k := 0) ((Below.heap_setCell _ _ _ _ (by simp)).trans ((Below.heap_setCell _ _ _ _ (by simp)).trans HI2.out)) (.int .i64 ((s : Int) - 1 - q2))) (.int .i64 p2)
            · exact ((((HIB.out.setCell (p := ⟨na, 0, none⟩) (Nat.le_refl _) _).setCell (p := ⟨na, 1, none⟩) (Nat.le_refl _) _).setCell (p := ⟨na + 1, 0, none⟩) (Nat.le_succ _) _).setCell (p := ⟨na + 1, 1, none⟩) (Nat.le_succ _) _)
          case measure => simp [intOf]; omega
        · obtain rfl : j = tn := by omega
          have htj : decide ((j : Int) < (j : Int)) = false := by simp
          have HAJ : Hid (Acc elDomino w w.heap.size wr (.slice A1 k ca) ys) := HA3.out.below (by rw [HNA.out]; exact HIB.out)
          go_wp2_with fail
          refine (HOV.out _).mono ?_
          rintro e w5 ⟨rfl, hb5⟩
          have HA5 := Lib.hid (HAJ.out.below hb5)
          clear f0 f1 f2 f3 f4 f5 hb5
          go_upto_region 15 with (fail)
          obtain ⟨V9, hV9, k9, hb9⟩ := one_alloc w5 (triO nx ny nd 39)
          rw [← hV9]
          have HA9 := Lib.hid (HA5.out.below hb9)
          obtain ⟨g0, g1, g2⟩ := tri_cells k9
          clear hV9 k9 hb9
          go_wp2_with (at_builtin; refine wpList_push okDomino rfl _ _ rfl HA9.out rfl (nx, ny, nd) _ rfl _ rfl rfl (by omega) ?_; intro v10 w10 HA10 HG10)
          go_roundw
          case rel => exact ⟨k + 1, _, by omega, by go_num, rfl, by rw [HMV.out]; exact HA10⟩
          case measure => simp [intOf]; omega
    · obtain rfl : k = ls.length := by omega
      have ht : decide ((ls.length : Int) < (ls.length : Int)) = false := by simp
      have HRD := Lib.hid (HA.out.1.rd okDomino)
      have HML := Lib.hid hml
      clear hml
      have HBA := Lib.hid HA.out.2.1
      go_wp2_with fail
      refine (specSortDominoes_any _ (mv ls.length) _ _ HRD.out (Nat.le_refl _)).mono ?_
      rintro e w9 ⟨u9, rfl, ho9, hb9⟩
      have ho9 : OwnF elDomino w9 wr.heap.size u9 (sortI (mv ls.length) ls.length) := by rw [HML.out] at ho9; exact ho9
      have HO9 := Lib.hid (ho9.mono HBA.out.size)
      have HB9 := Lib.hid (HBA.out.trans (hb9.mono HBA.out.size))
      clear ho9 hb9
      go_wp2_with fail
      go_ret
      exact ⟨_, rfl, HO9.out, HB9.out⟩
end Go.Proofs.YtehnbalbpfmijaaDoor

namespace Go.Proofs.YtehnbalbpfmijaaDoor
open Go.RowKit
set_option linter.unusedVariables false

theorem lst_tab : ([2, 4].all fun s => decide (lstO (setZ (rectZ s s)) 20 [] 300 = some (allT s))) = true := by decide +kernel
theorem lst_sq {s : Nat} (hs : s = 2 ∨ s = 4) : lstO (setZ (rectZ s s)) 20 [] 300 = some (allT s) := by
  have h := List.all_eq_true.1 lst_tab s (by rcases hs with rfl | rfl <;> simp)
  exact of_decide_eq_true h
theorem til_tab : ([2, 4].all fun s => (allT s).all fun ls => fltB (s : Nat) (s : Nat) ls) = true := by decide +kernel
theorem til_sq {s : Nat} (hs : s = 2 ∨ s = 4) {ls : List Lk} (h : ls ∈ allT s) : fltB (s : Nat) (s : Nat) ls = true :=
  List.all_eq_true.1 (List.all_eq_true.1 til_tab s (by rcases hs with rfl | rfl <;> simp)) ls h
theorem seen_tab : ([2, 4].all fun s => (allT s).all fun ls => (List.range 4).all fun t => [false, true].all fun m => decide (seenZ (s : Nat) ls t m = lmZ m t (s : Nat) ls)) = true := by decide +kernel
theorem seen_sq {s : Nat} (hs : s = 2 ∨ s = 4) {ls : List Lk} (h : ls ∈ allT s) {t : Nat} (ht : t ≤ 3) (m : Bool) : seenZ (s : Nat) ls t m = lmZ m t (s : Nat) ls := by
  have h1 := List.all_eq_true.1 (List.all_eq_true.1 (List.all_eq_true.1 (List.all_eq_true.1 seen_tab s (by rcases hs with rfl | rfl <;> simp)) ls h) t (by simp; omega)) m (by cases m <;> simp)
  exact of_decide_eq_true h1
end Go.Proofs.YtehnbalbpfmijaaDoor

namespace Go.Proofs.YtehnbalbpfmijaaDoor
open Go.RowKit
set_option linter.unusedVariables false

def fourB (l : Lk) : List UInt8 := [UInt8.ofNat (48 + l.1.toNat), 44, UInt8.ofNat (48 + l.2.1.toNat), if l.2.2 then 100 else 114]
def textZ (ls : List Lk) : List UInt8 := Lib.join (ls.map fourB) [32]
theorem four_len (l : Lk) : (fourB l).length = 4 := rfl
theorem tail_len (ls : List Lk) : (Lib.joinTail [32] (ls.map fourB)).length = 5 * ls.length := by
  induction ls with
  | nil => rfl
  | cons a r ih =>
    unfold Lib.joinTail at ih ⊢
    simp only [List.map_cons, List.flatten_cons, List.length_append, ih, four_len, List.length_cons, List.length_nil]
    omega
theorem text_len (ls : List Lk) : (textZ ls).length ≤ 5 * ls.length := by
  unfold textZ
  cases ls with
  | nil => simp [Lib.join, List.intercalate]
  | cons a r =>
    rw [List.map_cons, Lib.join_cons, List.length_append, tail_len, four_len, List.length_cons]
    omega
end Go.Proofs.YtehnbalbpfmijaaDoor

namespace Go.Proofs.YtehnbalbpfmijaaDoor
open Go.RowKit
set_option linter.unusedVariables false

/-- The images of a list, the j-th of eight. -/
def imgZ (s : Nat) (ls : List Lk) (j : Nat) : List Lk := seenZ (s : Nat) ls (j % 4) (decide (4 ≤ j))
def getL (L : List (List Lk)) (k : Nat) : List Lk := L.getD k []
/-- The known texts, after j images of one more list. -/
def knTo (f : Nat → List UInt8) (S : List (List UInt8)) : Nat → List (List UInt8)
  | 0 => S
  | j + 1 => f j :: knTo f S j
/-- The number of classes and the known texts after k lists. -/
def stTo (s : Nat) (L : List (List Lk)) : Nat → Nat × List (List UInt8)
  | 0 => (0, [])
  | k + 1 => match stTo s L k with
    | (n, S) => if textZ (getL L k) ∈ S then (n, S) else (n + 1, knTo (fun j => textZ (imgZ s (getL L k) j)) S 8)
def clsN (s : Nat) : Nat := (stTo s (allT s) (allT s).length).1
theorem st_step (s : Nat) (L : List (List Lk)) (k : Nat) : stTo s L (k + 1) = if textZ (getL L k) ∈ (stTo s L k).2 then stTo s L k else ((stTo s L k).1 + 1, knTo (fun j => textZ (imgZ s (getL L k) j)) (stTo s L k).2 8) := by
  rw [stTo]
theorem st_in {s : Nat} {L : List (List Lk)} {k : Nat} (h : decide (textZ (getL L k) ∈ (stTo s L k).2) = true) : stTo s L (k + 1) = stTo s L k := by
  rw [st_step, if_pos (of_decide_eq_true h)]
theorem st_out {s : Nat} {L : List (List Lk)} {k : Nat} (h : decide (textZ (getL L k) ∈ (stTo s L k).2) = false) :
    stTo s L (k + 1) = ((stTo s L k).1 + 1, knTo (fun j => textZ (imgZ s (getL L k) j)) (stTo s L k).2 8) := by
  rw [st_step, if_neg (of_decide_eq_false h)]
theorem st_le (s : Nat) (L : List (List Lk)) : ∀ k, (stTo s L k).1 ≤ k
  | 0 => Nat.le_refl _
  | k + 1 => by
    have h := st_le s L k
    cases hd : decide (textZ (getL L k) ∈ (stTo s L k).2)
    · rw [st_out hd]; exact Nat.succ_le_succ h
    · rw [st_in hd]; exact Nat.le_succ_of_le h
/-- The reference's way: a list is counted if it is no image of an earlier one. -/
def hitB (s : Nat) (a b : List Lk) (t : Nat) : Bool := decide (seenZ (s : Nat) a t false = b) || decide (seenZ (s : Nat) a t true = b)
def fstT (hit : Nat → Bool) (f : Bool) : Nat → Bool
  | 0 => f
  | t + 1 => if hit t then false else fstT hit f t
def fstI (hit : List Lk → List Lk → Nat → Bool) (L : List (List Lk)) (b : List Lk) : Nat → Bool
  | 0 => true
  | i + 1 => fstT (hit (getL L i) b) (fstI hit L b i) 4
def refTo (hit : List Lk → List Lk → Nat → Bool) (L : List (List Lk)) : Nat → Nat
  | 0 => 0
  | k + 1 => if fstI hit L (getL L k) k then refTo hit L k + 1 else refTo hit L k

theorem cls_tab2 : clsN 2 = 1 := by decide +kernel
theorem cls_tab4 : clsN 4 = 9 := by decide +kernel
theorem ref_tab2 : refTo (hitB 2) (allT 2) (allT 2).length = 1 := by decide +kernel
theorem ref_tab4 : refTo (hitB 4) (allT 4) (allT 4).length = 9 := by decide +kernel
theorem ok_tab : ([2, 4].all fun s => (allT s).all fun ls => (List.range 4).all fun t => [false, true].all fun m => (seenZ (s : Nat) ls t m).all domL && decide ((seenZ (s : Nat) ls t m).length ≤ 8)) = true := by decide +kernel
theorem img_ok {s : Nat} (hs : s = 2 ∨ s = 4) {ls : List Lk} (h : ls ∈ allT s) {t : Nat} (ht : t ≤ 3) (m : Bool) : (seenZ (s : Nat) ls t m).all domL = true ∧ (seenZ (s : Nat) ls t m).length ≤ 8 := by
  have h1 := List.all_eq_true.1 (List.all_eq_true.1 (List.all_eq_true.1 (List.all_eq_true.1 ok_tab s (by rcases hs with rfl | rfl <;> simp)) ls h) t (by simp; omega)) m (by cases m <;> simp)
  simp only [Bool.and_eq_true, decide_eq_true_eq] at h1
  exact h1
end Go.Proofs.YtehnbalbpfmijaaDoor

namespace Go.Proofs.YtehnbalbpfmijaaDoor
open Go.RowKit
set_option linter.unusedVariables false

def elStr : El ByteArray := ⟨9, 52, 1, 16, .string ⟨#[]⟩, fun b => [.string b]⟩
theorem okStr : elStr.Ok Tryd.prog := ⟨Tryd.underlying52, by kernel_rfl, rfl, by decide, by decide, fun _ => rfl, fun x u hu => by simp [elStr] at hu; subst hu; rfl⟩

theorem plainElem_bool_inv {H : Type} {P : Program} {e : TypeId} (he : P.underlying e = some .bool) {v : Value} {z : DataW H × List MemPlace} (h : plainElem P e v = some z) : ∃ x, v = .bool x ∧ z = (.lit (.bool x), []) := by
  unfold plainElem at h
  rw [he] at h
  cases v <;> simp at h
  subst h
  exact ⟨_, rfl, rfl⟩

/-- Block b is a map of at most n entries; the keys on S hold true, all others read false. -/
def Knows (P : Program) (k e : TypeId) (w : World) (b n : Nat) (S : List (List UInt8)) : Prop :=
  ∃ D : DataW Unit, w.ownsMap P k (plainElem P e) b n D ∧ Maps.IsMap D ∧ ∀ l : List UInt8, D.atKey (.string l) (.lit (.bool false)) = .lit (.bool (decide (l ∈ S)))
section
variable {P : Program} {k e : TypeId} {w : World} {b n : Nat} {S : List (List UInt8)}
theorem Knows.made (w : World) : Knows P k e (w.alloc (.map #[] 0)) w.heap.size 0 [] :=
  ⟨.map [], World.ownsMap_made _ _ _ _, ⟨[], rfl⟩, fun l => by simp [DataW.atKey]⟩
theorem Knows.lt (h : Knows P k e w b n S) : b < w.heap.size := by obtain ⟨D, h1, _⟩ := h; exact h1.lt
theorem Knows.mono (h : Knows P k e w b n S) {n' : Nat} (hn : n ≤ n') : Knows P k e w b n' S := by obtain ⟨D, h1, h2⟩ := h; exact ⟨D, h1.mono hn, h2⟩
theorem Knows.blk {w' : World} (h : Knows P k e w b n S) (hb : w'.heap[b]? = w.heap[b]?) : Knows P k e w' b n S := by
  obtain ⟨D, ⟨es, clock, h1, h3⟩, h2⟩ := h
  exact ⟨D, ⟨es, clock, hb.trans h1, h3⟩, h2⟩
theorem Knows.below {w' : World} {B : Nat} (h : Knows P k e w b n S) (hb : Below B w w') (hB : b < B) : Knows P k e w' b n S := h.blk (hb.block b hB)
theorem Knows.look {t : TypeId} (h : Knows P k e w b n S) (hk : P.underlying k = some .string) (ht : P.underlying t = some (.map k e)) (he : P.underlying e = some .bool) (hz : (zeroValue e).run P w = .ok (.bool false) w) (s : ByteArray) (hs : s.size ≤ maxLen) :
    (Instr.lookup t (.map (some b)) (.string s) false).run P w = .ok (.bool (decide (s.data.toList ∈ S))) w := by
  obtain ⟨D, h1, _, h2⟩ := h
  obtain ⟨v, ps, hrun, hv⟩ := h1.lookup (Maps.string_keyed hk) ht hz (plainElem_bool he false) (WideMaps.keyOf_string_mk hk hs)
  obtain ⟨c, rfl, hc⟩ := plainElem_bool_inv he hv
  rw [h2] at hc
  simp only [Prod.mk.injEq, DataW.lit.injEq, Lit.bool.injEq] at hc
  rw [hc.1]; exact hrun
theorem Knows.put {t : TypeId} (h : Knows P k e w b n S) (hk : P.underlying k = some .string) (ht : P.underlying t = some (.map k e)) (he : P.underlying e = some .bool) (hn : n < maxLen) (s : ByteArray) (hs : s.size ≤ maxLen) :
    ∃ w', (Instr.mapUpdate t (.map (some b)) (.string s) (.bool true)).run P w = .ok () w' ∧ Knows P k e w' b (n + 1) (s.data.toList :: S) ∧ w.grownBy w' (some b) := by
  obtain ⟨D, h1, hm, h2⟩ := h
  obtain ⟨w', hrun, r1, r2⟩ := h1.update (Maps.string_keyed hk) ht hn (WideMaps.keyOf_string_mk hk hs) (plainElem_bool he true)
  refine ⟨w', hrun, ⟨_, r1, hm.put _ _, fun l => ?_⟩, r2⟩
  by_cases hl : l = s.data.toList
  · subst hl
    rw [Maps.atKey_put_same hm (by trivial)]
    simp
  · rw [Maps.atKey_put_other (fun e => hl (by injection e)), h2 l]
    simp [hl]
theorem wpList_look {ops : Array Oper} {rest : List Oper} {o : Oper} {a : Act} {Q : Exit → Act → World → Prop} (hg : o.guard = none) (m x : Operand) (t : TypeId) (hop : o.op = Op.lookup t m x false)
    (hk : P.underlying k = some .string) (ht : P.underlying t = some (.map k e)) (he : P.underlying e = some .bool) (hz : (zeroValue e).run P w = .ok (.bool false) w) (hm : a.eval m = .map (some b)) (h : Knows P k e w b n S) (s : ByteArray) (hx : a.eval x = .string s) (hs : s.size ≤ maxLen)
    (c : Bool) (hc : decide (s.data.toList ∈ S) = c) (hK : wpList P ops Q rest (a.put o.dst (.bool c)) w) : wpList P ops Q (o :: rest) a w := by
  subst hc
  refine wpList_plain hg fun K' hK' => ?_
  have hrun := h.look hk ht he hz s hs
  unfold Oper.wp
  simp [execOp, hop, hm, hx, hrun, Result.andThen]
  exact hK' _ _ hK
theorem wpList_putM {ops : Array Oper} {rest : List Oper} {o : Oper} {a : Act} {Q : Exit → Act → World → Prop} (hg : o.guard = none) (m x v : Operand) (t : TypeId) (hop : o.op = Op.mapUpdate t m x v)
    (hk : P.underlying k = some .string) (ht : P.underlying t = some (.map k e)) (he : P.underlying e = some .bool) (hm : a.eval m = .map (some b)) (h : Knows P k e w b n S) (hn : n < maxLen) (s : ByteArray) (hx : a.eval x = .string s) (hv : a.eval v = .bool true) (hs : s.size ≤ maxLen)
    (hK : ∀ w', Hid (Knows P k e w' b (n + 1) (s.data.toList :: S)) → Hid (w.grownBy w' (some b)) → wpList P ops Q rest (a.put o.dst undef) w') : wpList P ops Q (o :: rest) a w := by
  refine wpList_plain hg fun K' hK' => ?_
  obtain ⟨w', hrun, r1, r2⟩ := h.put hk ht he hn s hs
  unfold Oper.wp
  simp [execOp, hop, hm, hx, hv, hrun, Result.andThen]
  exact hK' _ _ (hK w' r1 r2)
theorem Knows.none (h : Knows P k e w b n S) {p : Addr} (hp : p.block = b) : w.cell? p = none := by
  obtain ⟨D, ⟨es, clock, h1, _⟩, _⟩ := h
  subst hp
  unfold World.cell?
  rw [h1]
/-- A store into the map leaves all cells as they were. -/
theorem Knows.cells {w' : World} {n' : Nat} {S' : List (List UInt8)} (h : Knows P k e w b n S) (h' : Knows P k e w' b n' S') (hg : w.grownBy w' (some b)) (p : Addr) (hp : p.block < w.heap.size) : w'.cell? p = w.cell? p := by
  by_cases hb : p.block = b
  · rw [h.none hb, h'.none hb]
  · exact World.cell?_of_block (hg.block _ hp fun e => hb (Option.some.inj e))
end
end Go.Proofs.YtehnbalbpfmijaaDoor

namespace Go.Proofs
open Go.Shelf
def Tryd.lays171_ren : Go.Shelf.Ren := ⟨fun | 171 => 64 | 243 => 73 | 246 => 80 | 283 => 83 | 284 => 84 | 285 => 85 | 286 => 86 | 129 => 88 | 317 => 87 | 318 => 89 | 319 => 90 | 320 => 91 | 337 => 92 | 338 => 93 | n => n, fun | 3 => 3 | 9 => 9 | 2 => 2 | 4 => 4 | 171 => 104 | 0 => 0 | 53 => 47 | 37 => 74 | 5 => 5 | 173 => 107 | 212 => 110 | 51 => 111 | 20 => 20 | 213 => 112 | 46 => 97 | 232 => 115 | 233 => 116 | n => n, fun | 17 => 1 | 18 => 2 | 19 => 3 | n => n⟩
theorem Tryd.lays171 : Go.Proofs.Lays.n171 Tryd.prog Tryd.lays171_ren := {
  mixed := by kernel_rfl
  f129 := Tryd.func88.trans (congrArg some (by kernel_rfl))
  f171 := Tryd.func64.trans (congrArg some (by kernel_rfl))
  f243 := Tryd.func73.trans (congrArg some (by kernel_rfl))
  f246 := Tryd.func80.trans (congrArg some (by kernel_rfl))
  f283 := Tryd.func83.trans (congrArg some (by kernel_rfl))
  f284 := Tryd.func84.trans (congrArg some (by kernel_rfl))
  f285 := Tryd.func85.trans (congrArg some (by kernel_rfl))
  f286 := Tryd.func86.trans (congrArg some (by kernel_rfl))
  f317 := Tryd.func87.trans (congrArg some (by kernel_rfl))
  f318 := Tryd.func89.trans (congrArg some (by kernel_rfl))
  f319 := Tryd.func90.trans (congrArg some (by kernel_rfl))
  f320 := Tryd.func91.trans (congrArg some (by kernel_rfl))
  f337 := Tryd.func92.trans (congrArg some (by kernel_rfl))
  f338 := Tryd.func93.trans (congrArg some (by kernel_rfl))
  t0 := Tryd.underlying0
  a0 := Tryd.isAgg0
  z0 := Tryd.sizeOf0
  v0 := Tryd.zeroValue0
  t2 := Tryd.underlying2
  a2 := Tryd.isAgg2
  z2 := Tryd.sizeOf2
  v2 := Tryd.zeroValue2
  t3 := Tryd.underlying3
  a3 := Tryd.isAgg3
  z3 := Tryd.sizeOf3
  v3 := Tryd.zeroValue3
  t4 := Tryd.underlying4
  a4 := Tryd.isAgg4
  z4 := Tryd.sizeOf4
  v4 := Tryd.zeroValue4
  t5 := Tryd.underlying5
  a5 := Tryd.isAgg5
  z5 := Tryd.sizeOf5
  v5 := Tryd.zeroValue5
  t9 := Tryd.underlying9
  a9 := Tryd.isAgg9
  z9 := Tryd.sizeOf9
  v9 := Tryd.zeroValue9
  t20 := Tryd.underlying20
  a20 := Tryd.isAgg20
  z20 := Tryd.sizeOf20
  v20 := Tryd.zeroValue20
  t37 := Tryd.underlying74
  a37 := Tryd.isAgg74
  z37 := Tryd.sizeOf74
  v37 := Tryd.zeroValue74
  t46 := Tryd.underlying97
  a46 := Tryd.isAgg97
  z46 := Tryd.sizeOf97
  v46 := Tryd.zeroValue97
  t51 := Tryd.underlying111
  a51 := Tryd.isAgg111
  z51 := Tryd.sizeOf111
  v51 := Tryd.zeroValue111
  t53 := Tryd.underlying47
  a53 := Tryd.isAgg47
  z53 := Tryd.sizeOf47
  v53 := Tryd.zeroValue47
  t171 := Tryd.underlying104
  a171 := Tryd.isAgg104
  z171 := Tryd.sizeOf104
  v171 := Tryd.zeroValue104
  t173 := Tryd.underlying107
  a173 := Tryd.isAgg107
  z173 := Tryd.sizeOf107
  v173 := Tryd.zeroValue107
  t212 := Tryd.underlying110
  a212 := Tryd.isAgg110
  z212 := Tryd.sizeOf110
  v212 := Tryd.zeroValue110
  t213 := Tryd.underlying112
  a213 := Tryd.isAgg112
  z213 := Tryd.sizeOf112
  t232 := Tryd.underlying115
  a232 := Tryd.isAgg115
  z232 := Tryd.sizeOf115
  v232 := Tryd.zeroValue115
  t233 := Tryd.underlying116
  a233 := Tryd.isAgg116
  z233 := Tryd.sizeOf116
  v233 := Tryd.zeroValue116
  g17 := by kernel_rfl
  g18 := by kernel_rfl
  g19 := by kernel_rfl }
def Tryd.lays156_ren : Go.Shelf.Ren := ⟨fun | 156 => 28 | 165 => 48 | 166 => 49 | 169 => 50 | 240 => 65 | 241 => 66 | 276 => 74 | 277 => 75 | n => n, fun | 31 => 52 | 9 => 9 | 3 => 3 | 4 => 4 | 0 => 0 | 20 => 20 | 72 => 76 | 76 => 80 | 70 => 73 | 37 => 74 | 75 => 79 | 127 => 94 | 164 => 99 | 5 => 5 | 80 => 82 | n => n, fun | n => n⟩
theorem Tryd.lays156 : Go.Proofs.Lays.n156 Tryd.prog Tryd.lays156_ren := {
  mixed := by kernel_rfl
  f156 := Tryd.func28.trans (congrArg some (by kernel_rfl))
  f165 := Tryd.func48.trans (congrArg some (by kernel_rfl))
  f166 := Tryd.func49.trans (congrArg some (by kernel_rfl))
  f169 := Tryd.func50.trans (congrArg some (by kernel_rfl))
  f240 := Tryd.func65.trans (congrArg some (by kernel_rfl))
  f241 := Tryd.func66.trans (congrArg some (by kernel_rfl))
  f276 := Tryd.func74.trans (congrArg some (by kernel_rfl))
  f277 := Tryd.func75.trans (congrArg some (by kernel_rfl))
  t0 := Tryd.underlying0
  a0 := Tryd.isAgg0
  z0 := Tryd.sizeOf0
  v0 := Tryd.zeroValue0
  t3 := Tryd.underlying3
  a3 := Tryd.isAgg3
  z3 := Tryd.sizeOf3
  v3 := Tryd.zeroValue3
  t4 := Tryd.underlying4
  a4 := Tryd.isAgg4
  z4 := Tryd.sizeOf4
  v4 := Tryd.zeroValue4
  t9 := Tryd.underlying9
  a9 := Tryd.isAgg9
  z9 := Tryd.sizeOf9
  v9 := Tryd.zeroValue9
  t20 := Tryd.underlying20
  a20 := Tryd.isAgg20
  z20 := Tryd.sizeOf20
  v20 := Tryd.zeroValue20
  t31 := Tryd.underlying52
  a31 := Tryd.isAgg52
  z31 := Tryd.sizeOf52
  v31 := Tryd.zeroValue52
  t37 := Tryd.underlying74
  a37 := Tryd.isAgg74
  z37 := Tryd.sizeOf74
  v37 := Tryd.zeroValue74
  t70 := Tryd.underlying73
  a70 := Tryd.isAgg73
  z70 := Tryd.sizeOf73
  v70 := Tryd.zeroValue73
  t72 := Tryd.underlying76
  a72 := Tryd.isAgg76
  z72 := Tryd.sizeOf76
  v72 := Tryd.zeroValue76
  t75 := Tryd.underlying79
  a75 := Tryd.isAgg79
  z75 := Tryd.sizeOf79
  v75 := Tryd.zeroValue79
  t76 := Tryd.underlying80
  a76 := Tryd.isAgg80
  z76 := Tryd.sizeOf80
  v76 := Tryd.zeroValue80
  t127 := Tryd.underlying94
  a127 := Tryd.isAgg94
  z127 := Tryd.sizeOf94
  v127 := Tryd.zeroValue94
  t164 := Tryd.underlying99
  a164 := Tryd.isAgg99
  z164 := Tryd.sizeOf99
  v164 := Tryd.zeroValue99 }
theorem Tryd.Builder_Extra_156 : Builder.Extra Tryd.prog Tryd.lays156_ren := {
  sizeBuilder := by kernel_rfl
  liesBuilder := by kernel_rfl
  t5 := Tryd.underlying5
  a5 := Tryd.isAgg5
  z5 := Tryd.sizeOf5
  v5 := Tryd.zeroValue5
  infoByte := by kernel_rfl
  cellsByte := by kernel_rfl
  sizeByte := by kernel_rfl
  neB5 := by decide }
end Go.Proofs

namespace Go.Proofs.YtehnbalbpfmijaaDoor
open Go.RowKit
set_option linter.unusedVariables false

theorem FormatInt_small (i : Nat) (hi : i < 100) (w : World) :
    Calls Tryd.prog 47 #[.int .i64 (i : Int)] w fun e w' => e = .returned (.string ⟨(Lib.decDigits i).toArray⟩) ∧ w' = w := by
  have HI : Hid (Calls Tryd.prog 64 #[.int .i64 (i : Int)] w fun e w' => e = .returned (.string ⟨(Lib.decDigits i).toArray⟩) ∧ w' = w) := Any.strconv_Itoa_small Tryd.lays171 i hi w
  go_enter Tryd.func47, Tryd.ntmps47
  go_wp2_with fail
  refine HI.out.mono ?_
  rintro e w' ⟨rfl, rfl⟩
  go_wp2_with fail
  go_ret
  exact ⟨rfl, rfl⟩

theorem digit (i : Nat) (hi : i < 10) : Lib.decDigits i = [UInt8.ofNat (48 + i)] := by
  unfold Lib.decDigits
  rw [dif_pos hi]

set_option maxRecDepth 100000 in
set_option maxHeartbeats 2000000 in
theorem DominoText_ok (a b : Nat) (d : Bool) (ha : a ≤ 7) (hb : b ≤ 7) (hd : domB (a : Int) (b : Int) d = true) (w : World) :
    Calls Tryd.prog 27 #[triV (a : Int) (b : Int) d] w fun e w' => e = .returned (.string ⟨(fourB ((a : Int), (b : Int), d)).toArray⟩) ∧ Below w.heap.size w w' := by
  have HOK := Lib.hid (fun V => DominoOk_any (a : Int) (b : Int) d V)
  have HFA : Hid (∀ V, Calls Tryd.prog 47 #[.int .i64 (a : Int)] V fun e w' => e = .returned (.string ⟨#[UInt8.ofNat (48 + a)]⟩) ∧ w' = V) := fun V => by
    have := FormatInt_small a (by omega) V
    rwa [digit a (by omega)] at this
  have HFB : Hid (∀ V, Calls Tryd.prog 47 #[.int .i64 (b : Int)] V fun e w' => e = .returned (.string ⟨#[UInt8.ofNat (48 + b)]⟩) ∧ w' = V) := fun V => by
    have := FormatInt_small b (by omega) V
    rwa [digit b (by omega)] at this
  have HR : Hid (fourB ((a : Int), (b : Int), d) = [UInt8.ofNat (48 + a), 44, UInt8.ofNat (48 + b), if d then 100 else 114]) := by unfold Hid fourB; simp
  rw [HR.out]
  generalize UInt8.ofNat (48 + a) = p at *
  generalize UInt8.ofNat (48 + b) = q at *
  clear HR
  cases d
  · go_enter Tryd.func27, Tryd.ntmps27
    go_wp2_with fail
    obtain ⟨V0, hV0, k9, hbV0⟩ := one_alloc w (.cells #[.int .i64 (a : Int), .int .i64 (b : Int), .bool false] 39)
    rw [← hV0]
    have f0 : V0.cell? ⟨w.heap.size, 0, none⟩ = some (.int .i64 (a : Int)) := by rw [blk_cell k9]; rfl
    have f1 : V0.cell? ⟨w.heap.size, 1, none⟩ = some (.int .i64 (b : Int)) := by rw [blk_cell k9]; rfl
    have f2 : V0.cell? ⟨w.heap.size, 2, none⟩ = some (.bool false) := by rw [blk_cell k9]; rfl
    have HL := Lib.hid (lt_of_block k9)
    have HB0 := Lib.hid hbV0
    clear hV0 k9 hbV0
    refine (HOK.out _).mono ?_
    rintro e w1 ⟨rfl, hb1⟩
    rw [hd]
    have g0 := (hb1.cell (p := ⟨w.heap.size, 0, none⟩) HL.out).trans f0
    have g1 := (hb1.cell (p := ⟨w.heap.size, 1, none⟩) HL.out).trans f1
    have g2 := (hb1.cell (p := ⟨w.heap.size, 2, none⟩) HL.out).trans f2
    have HB1 := Lib.hid (HB0.out.trans (hb1.mono HB0.out.size))
    clear f0 f1 f2 hb1
    go_wp2_with fail
    go_quiet (first
      | (go_at_call 47; exact Calls.quiet_of_same (HFA.out _))
      | (go_at_call 47; exact Calls.quiet_of_same (HFB.out _)))
    go_wp2_with fail
    go_ret
    exact ⟨rfl, HB1.out.trans ((Drawn.below (w := w1) (w' := w1.drewN _) ⟨_, rfl⟩ w1.heap.size).mono HB1.out.size)⟩
  · go_enter Tryd.func27, Tryd.ntmps27
    go_wp2_with fail
    obtain ⟨V0, hV0, k9, hbV0⟩ := one_alloc w (.cells #[.int .i64 (a : Int), .int .i64 (b : Int), .bool true] 39)
    rw [← hV0]
    have f0 : V0.cell? ⟨w.heap.size, 0, none⟩ = some (.int .i64 (a : Int)) := by rw [blk_cell k9]; rfl
    have f1 : V0.cell? ⟨w.heap.size, 1, none⟩ = some (.int .i64 (b : Int)) := by rw [blk_cell k9]; rfl
    have f2 : V0.cell? ⟨w.heap.size, 2, none⟩ = some (.bool true) := by rw [blk_cell k9]; rfl
    have HL := Lib.hid (lt_of_block k9)
    have HB0 := Lib.hid hbV0
    clear hV0 k9 hbV0
    refine (HOK.out _).mono ?_
    rintro e w1 ⟨rfl, hb1⟩
    rw [hd]
    have g0 := (hb1.cell (p := ⟨w.heap.size, 0, none⟩) HL.out).trans f0
    have g1 := (hb1.cell (p := ⟨w.heap.size, 1, none⟩) HL.out).trans f1
    have g2 := (hb1.cell (p := ⟨w.heap.size, 2, none⟩) HL.out).trans f2
    have HB1 := Lib.hid (HB0.out.trans (hb1.mono HB0.out.size))
    clear f0 f1 f2 hb1
    go_wp2_with fail
    go_quiet (first
      | (go_at_call 47; exact Calls.quiet_of_same (HFA.out _))
      | (go_at_call 47; exact Calls.quiet_of_same (HFB.out _)))
    go_wp2_with fail
    go_ret
    exact ⟨rfl, HB1.out.trans ((Drawn.below (w := w1) (w' := w1.drewN _) ⟨_, rfl⟩ w1.heap.size).mono HB1.out.size)⟩

def fourT (l : Lk) : ByteArray := ⟨(fourB l).toArray⟩
theorem dAt_here (ls : List Lk) (k : Nat) (h : k < ls.length) : dAt ls k = ls[k] := by
  unfold dAt lx ly ld
  simp [h]
theorem four_list (l : Lk) : (fourT l).data.toList = fourB l := rfl
theorem map_four (ls : List Lk) : (ls.map fourT).map (fun b : ByteArray => b.data.toList) = ls.map fourB := by
  rw [List.map_map]; rfl
theorem dom_small {x y : Int} {d : Bool} (h : domB x y d = true) : ∃ a b : Nat, x = (a : Int) ∧ y = (b : Int) ∧ a ≤ 7 ∧ b ≤ 7 := by
  unfold domB at h
  rw [Bool.and_eq_true] at h
  have h1 := h.1
  unfold spotB at h1
  simp only [Bool.and_eq_true, inB_iff] at h1
  exact ⟨x.toNat, y.toNat, by omega, by omega, by omega, by omega⟩
set_option maxRecDepth 100000 in
set_option maxHeartbeats 2000000 in
theorem TilingText_ok (v : Value) (ls : List Lk) (B : Nat) (w : World) (h : RdF elDomino w B v ls) (hB : B ≤ w.heap.size) (hd : ls.all domL = true) (hn : ls.length ≤ 64) :
    Calls Tryd.prog 12 #[v] w fun e w' => e = .returned (.string ⟨(textZ ls).toArray⟩) ∧ Below w.heap.size w w' := by
  have HOK := Lib.hid (fun a b d V => DominoOk_any a b d V)
  have HDT : Hid (∀ k, k < ls.length → domB (lx ls k) (ly ls k) (ld ls k) = true ∧ ∀ V, Calls Tryd.prog 27 #[triV (lx ls k) (ly ls k) (ld ls k)] V fun e w' => e = .returned (.string (fourT (dAt ls k))) ∧ Below V.heap.size V w') := fun k hk => by
    have h1 : domL (dAt ls k) = true := List.all_eq_true.1 hd _ (by rw [dAt_here ls k hk]; exact List.getElem_mem hk)
    have h2 : domB (lx ls k) (ly ls k) (ld ls k) = true := h1
    refine ⟨h2, fun V => ?_⟩
    obtain ⟨a, b, ea, eb, ha, hb⟩ := dom_small h2
    have e : dAt ls k = ((a : Int), (b : Int), ld ls k) := by unfold dAt; rw [ea, eb]
    have := DominoText_ok a b (ld ls k) ha hb (by rw [← ea, ← eb]; exact h2) V
    rw [e, ea, eb]
    exact this
  have HTK : Hid (∀ k, k < ls.length → (ls.take (k + 1)).map fourT = (ls.take k).map fourT ++ [fourT (dAt ls k)]) := fun k hk => by
    rw [List.take_succ_eq_append_getElem hk, List.map_append, dAt_here ls k hk]; rfl
  have HLN : Hid (∀ k, k ≤ ls.length → ((ls.take k).map fourT).length = k) := fun k hk => by rw [List.length_map, List.length_take]; omega
  have HT0 : Hid ((ls.take 0).map fourT = []) := by unfold Hid; simp
  have HTE : Hid ((ls.take ls.length).map fourT = ls.map fourT) := by unfold Hid; rw [List.take_length]
  have HTX : Hid (textZ ls = Lib.join ((ls.map fourT).map (fun b : ByteArray => b.data.toList)) [32]) := by unfold Hid textZ; rw [map_four]
  have HTL := Lib.hid (text_len ls)
  obtain ⟨tz, HTZ⟩ : ∃ tz, Hid (textZ ls = tz) := ⟨_, rfl⟩
  rw [HTZ.out] at HTX HTL ⊢
  clear HTZ
  obtain ⟨tk, HTKE⟩ : ∃ tk : Nat → List ByteArray, Hid (tk = fun k => (ls.take k).map fourT) := ⟨_, rfl⟩
  have htk : ∀ k, (ls.take k).map fourT = tk k := fun k => by rw [HTKE.out]
  simp only [htk, Hid] at HTK HLN HT0 HTE
  replace HTK := Lib.hid HTK; replace HLN := Lib.hid HLN; replace HT0 := Lib.hid HT0; replace HTE := Lib.hid HTE
  clear htk HTKE
  have HV := Lib.hid h
  obtain ⟨A, c, rfl, g1, g2, G3⟩ := RdT.of (E := elDomino) rfl (fun _ => rfl) h
  unfold maxLen at g2
  have HJ := Lib.hid (fun (bk o c : Nat) (xs : List ByteArray) (W : World) hc hb hN hcap hlen => Any.strings_Join Tryd.lays156 Tryd.Builder_Extra_156 bk o c xs ⟨#[32]⟩ W hc hb hN hcap hlen)
  have HA0 : Hid (Acc elStr w w.heap.size (w.alloc (.cells #[] 9)) (.slice (some ⟨w.heap.size, 0, none⟩) 0 0) []) := Acc.start w
  clear h hd
  go_enter Tryd.func12, Tryd.ntmps12
  go_wp2_with fail
  go_loopw [3, 9] (fun o i wr => ∃ (k : Nat) (u : Value), k ≤ ls.length ∧ i = .int .i64 (k : Int) ∧ u = o ∧ Hid (Acc elStr w w.heap.size wr u (tk k))) (fun _ i _ => ls.length - (intOf i).toNat)
  case atStart => exact ⟨0, _, Nat.zero_le _, rfl, rfl, by rw [HT0.out]; exact HA0⟩
  case round =>
    obtain ⟨k, u, hk, rfl, rfl, HA⟩ := hrel
    have hml := HLN.out k hk
    obtain ⟨A1, ca, hv, q1, q2, _⟩ := HA.out.1.rd okStr
    rw [hml] at hv q1
    subst hv
    unfold maxLen at q2
    by_cases hlt : k < ls.length
    · have ht : decide ((k : Int) < (ls.length : Int)) = true := by simp only [decide_eq_true_eq]; omega
      obtain ⟨ad, rfl, hbl, hx, hy, hz⟩ := G3.out k hlt
      have hbl2 : (ad.add (k * 3)).block < w.heap.size := by rw [addBlock]; omega
      have hbw := HA.out.2.1
      have hx' := (hbw.cell (p := ad.add (k * 3)) hbl2).trans hx
      have hy' := (hbw.cell (p := ⟨(ad.add (k * 3)).block, (ad.add (k * 3)).off + 1, none⟩) hbl2).trans hy
      have hz' := (hbw.cell (p := ⟨(ad.add (k * 3)).block, (ad.add (k * 3)).off + 2, none⟩) hbl2).trans hz
      obtain ⟨hd, hdt⟩ := HDT.out k hlt
      have HDK := Lib.hid hdt
      have HTK1 := Lib.hid (HTK.out k hlt)
      have hk0 : (0 : Int) ≤ (k : Int) := by omega
      have hk1 : (k : Int) < (ls.length : Int) := by omega
      generalize lx ls k = x at *
      generalize ly ls k = y at *
      generalize ld ls k = d at *
      generalize fourT (dAt ls k) = tx at *
      clear hx hy hz hbw hdt
      go_wp2_with fail
      obtain ⟨V0, hV0, k9, hbV0⟩ := one_alloc wr (.cells #[.int .i64 x, .int .i64 y, .bool d] 39)
      rw [← hV0]
      have f0 : V0.cell? ⟨wr.heap.size, 0, none⟩ = some (.int .i64 x) := by rw [blk_cell k9]; rfl
      have f1 : V0.cell? ⟨wr.heap.size, 1, none⟩ = some (.int .i64 y) := by rw [blk_cell k9]; rfl
      have f2 : V0.cell? ⟨wr.heap.size, 2, none⟩ = some (.bool d) := by rw [blk_cell k9]; rfl
      have HL := Lib.hid (lt_of_block k9)
      have HAV := Lib.hid (HA.out.below hbV0)
      clear hV0 k9 hbV0 hx' hy' hz' HA
      refine (HOK.out _ _ _ _).mono ?_
      rintro e w3 ⟨rfl, hb3⟩
      rw [hd]
      have HA3 := Lib.hid (HAV.out.below hb3)
      have g0 := (hb3.cell (p := ⟨wr.heap.size, 0, none⟩) HL.out).trans f0
      have g1 := (hb3.cell (p := ⟨wr.heap.size, 1, none⟩) HL.out).trans f1
      have g2 := (hb3.cell (p := ⟨wr.heap.size, 2, none⟩) HL.out).trans f2
      clear f0 f1 f2 hb3 HAV
      go_wp2_with fail
      refine (HDK.out _).mono ?_
      rintro e w4 ⟨rfl, hb4⟩
      have HA4 := Lib.hid (HA3.out.below hb4)
      clear g0 g1 g2 hb4 HA3
      have hml2 : (tk k).length + 1 ≤ 1073741824 := by omega
      generalize tk k = ts at *
      go_wp2_with (at_builtin; refine wpList_push okStr rfl _ _ rfl HA4.out rfl tx _ rfl _ rfl (by simp) hml2 ?_; intro u5 w5 HA5 HG5)
      go_roundw
      case rel => exact ⟨k + 1, _, by omega, by go_num, rfl, by rw [HTK1.out]; exact HA5⟩
      case measure => simp [intOf]; omega
    · obtain rfl : k = ls.length := by omega
      have ht : decide ((ls.length : Int) < (ls.length : Int)) = false := by simp
      rw [HTE.out] at HA hml
      have HO9 : Hid (OwnF elStr wr w.heap.size (.slice A1 ls.length ca) (ls.map fourT)) := HA.out.1
      have HB9 := Lib.hid HA.out.2.1
      have HXL : Hid ((Lib.join ((ls.map fourT).map (fun b : ByteArray => b.data.toList)) [32]).length ≤ 140737488355328) := by
        unfold Hid; rw [← HTX.out]; exact Nat.le_trans HTL.out (by omega)
      by_cases h0 : ls.length = 0
      · have e0 : ls = [] := List.length_eq_zero_iff.1 h0
        have ez : tz = [] := by rw [HTX.out, e0]; rfl
        subst e0 ez
        have HJ0 := Lib.hid (Any.strings_Join_none Tryd.lays156 Tryd.Builder_Extra_156 A1 ca ⟨#[32]⟩ wr)
        clear HJ HO9 HXL HA
        go_wp2_with fail
        refine HJ0.out.mono ?_
        rintro e w' ⟨rfl, rfl⟩
        go_wp2_with fail
        go_ret
        exact ⟨rfl, HB9.out⟩
      · obtain ⟨g, cap, hv9, _, hg⟩ := World.ownsRow.form HO9.out (by rw [hml]; omega)
        rw [hml] at hv9
        simp only [Value.slice.injEq, true_and] at hv9
        obtain ⟨rfl, rfl⟩ := hv9
        have HJ1 := Lib.hid (HJ.out g 0 ca (ls.map fourT) wr (fun j x hj => by
          have hjl := (List.getElem?_eq_some_iff.1 hj).1
          have h1 := HO9.out
          unfold OwnF at h1
          rw [hml] at h1
          have h2 := World.ownsRow.cellAt h1 j (by rw [hml] at hjl; simp only [elStr]; omega)
          rw [Nat.zero_add, h2]
          have h3 := flat_get okStr.len (ls.map fourT) j 0 x hj (by decide)
          simpa [elStr] using h3) hg (by rw [hml]; omega) (by rw [hml]; exact q1) HXL.out)
        rw [hml, ← HTX.out] at HJ1
        clear HJ HO9 HXL HA
        go_wp2_with fail
        refine HJ1.out.mono ?_
        rintro e w' ⟨rfl, hb'⟩
        go_wp2_with fail
        go_ret
        exact ⟨rfl, HB9.out.trans (hb'.mono HB9.out.size)⟩
end Go.Proofs.YtehnbalbpfmijaaDoor
