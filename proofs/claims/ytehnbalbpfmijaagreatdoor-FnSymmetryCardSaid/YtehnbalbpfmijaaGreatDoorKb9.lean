/- What the claim's walk rests on: parts Mov2, Seen, SameD, FixA, FixI, TxtB, TxtZ, StrM, Shl. -/
import Derived.Test.YtehnbalbpfmijaaGreatDoorKb8
import Derived.Test.YtehnbalbpfmijaaGreatDoorKb3
import Derived.Test.YtehnbalbpfmijaaGreatDoorKb6
import Derived.Test.YtehnbalbpfmijaaGreatDoorKb1
import Derived.Test.YtehnbalbpfmijaaGreatDoorKb4
import Derived.Test.YtehnbalbpfmijaaGreatDoorKb5
import Derived.Test.YtehnbalbpfmijaaGreatDoorProg
import Derived.Deep.QuietTactic
import Derived.BigQuiet
import Derived.Lib.Join
import Derived.Lib.ItoaNum
import Derived.Maps.OwnOps
import Derived.Maps.Views
import Derived.Shelf.Strconv.Itoa3
import Derived.Shelf.Strings.OnBuilder
namespace Go.Proofs.YtehnbalbpfmijaaGreatDoor
open Go.RowKit
set_option linter.unusedVariables false

set_option maxRecDepth 100000 in
set_option maxHeartbeats 8000000 in
theorem moved_mirror (s : Nat) (v : Value) (ls : List Lk) (n0 : Nat) (B : Nat) (w : World) (h : RdF elDomino w B v ls) (hB : B ≤ w.heap.size) (hn : w.heap[n0]? = some (.cells #[.int .i64 (s : Int)] 3 (0, 0))) (hf : fltB s s ls = true) :
    Calls Tryz.prog 17 #[.int .i64 (s : Int), v, .func (.func 19) #[] #[.pointer (some ⟨n0, 0, none⟩)]] w (RetTiling w true (movZ false s ls)) := by
  have HZ : Hid (movZ false s ls = sortI (movTo false s ls ls.length) ls.length) := by unfold Hid movZ; rw [hf]; rfl
  rw [HZ.out]
  obtain ⟨hs1, hs2, ht⟩ := fltB_nat hf
  have hls := tile_short hs2 ht
  have HIN := Lib.hid (fun k (hk : k < ls.length) => tile_in hs2 ht hk)
  have HLEN := Lib.hid (movTo_len false (s : Int) ls)
  have HMS : Hid (∀ k, movTo false (s : Int) ls (k + 1) = movTo false (s : Int) ls k ++ [movL false (s : Int) (dAt ls k)]) := fun k => rfl
  have HM0 : Hid (movTo false (s : Int) ls 0 = []) := rfl
  obtain ⟨mv, HMV0⟩ : ∃ mv, Hid (mv = movTo false (s : Int) ls) := ⟨_, rfl⟩
  rw [← HMV0.out] at HMS HM0 HLEN ⊢
  have HV := Lib.hid h
  obtain ⟨A, c, rfl, g1, g2, G3⟩ := RdT.of (E := elDomino) rfl (fun _ => rfl) h
  unfold maxLen at g2
  have t1 : inB (s : Int) 1 8 = true := inB_true (by omega) (by omega)
  have hok := rectZ_ok s s hs2 hs2
  have HT : Hid (tileB (setZ (rectZ s s)) ls = true) := by unfold Hid; rw [tile_eq (setZ_lt hok)]; exact ht
  have HOK := Lib.hid hok
  have HN := Lib.hid hn
  clear hok ht h hf HMV0 HZ hn
  go_enter Tryz.func17, Tryz.ntmps17
  go_wp2_with fail
  refine (within_any _ _ _ _).mono ?_
  rintro e w' ⟨rfl, rfl⟩
  rw [t1]
  go_wp2_with fail
  refine (Rectangle_yes s s ⟨hs1, hs2⟩ ⟨hs1, hs2⟩ _).mono ?_
  rintro e w1 ⟨u1, rfl, hr1, hb1⟩
  have HR1 := Lib.hid hr1
  have HB1 := Lib.hid hb1
  clear hb1 hr1
  go_wp2_with fail
  refine (IsTiling_yes _ _ _ ls _ _ HR1.out ((HV.out.below (HB1.out.mono hB)).more (Nat.le_trans hB HB1.out.size)) (Nat.le_refl _) HOK.out).mono ?_
  rintro e w2 ⟨rfl, hb2⟩
  rw [HT.out]
  have HB2 := Lib.hid (HB1.out.trans (hb2.mono HB1.out.size))
  clear hb2
  have HA0 : Hid (Acc elDomino w w.heap.size (w2.alloc (.cells #[] 51)) (.slice (some ⟨w2.heap.size, 0, none⟩) 0 0) []) := by
    have := Acc.startAt (E := elDomino) HB2.out (Nat.le_refl _) HB2.out.size
    exact this
  go_wp2_with fail
  go_loopw [8, 29] (fun o i wr => ∃ (k : Nat) (u : Value), k ≤ ls.length ∧ i = .int .i64 (k : Int) ∧ u = o ∧ Hid (Acc elDomino w w.heap.size wr u (mv k))) (fun _ i _ => ls.length - (intOf i).toNat)
  case atStart => exact ⟨0, _, Nat.zero_le _, rfl, rfl, by rw [HM0.out]; exact HA0⟩
  case round =>
    obtain ⟨k, u, hk, rfl, rfl, HA⟩ := hrel
    obtain ⟨A1, ca, hv, q1, q2, _⟩ := HA.out.1.rd okDomino
    have hml := HLEN.out k
    rw [hml] at hv q1
    subst hv
    unfold maxLen at q2
    by_cases hlt : k < ls.length
    · have ht : decide ((k : Int) < (ls.length : Int)) = true := by simp only [decide_eq_true_eq]; omega
      obtain ⟨ad, rfl, hbl, hx, hy, hz⟩ := G3.out k hlt
      have hbl2 : (ad.add (k * 3)).block < w.heap.size := by rw [addBlock]; omega
      have hbw := HA.out.2.1
      have hx' := (hbw.cell (p := ad.add (k * 3)) hbl2).trans hx
      have hy' := (hbw.cell (p := ⟨(ad.add (k * 3)).block, (ad.add (k * 3)).off + 1, none⟩) hbl2).trans hy
      have hz' := (hbw.cell (p := ⟨(ad.add (k * 3)).block, (ad.add (k * 3)).off + 2, none⟩) hbl2).trans hz
      obtain ⟨hd, hxb, hyb, hxb2, hyb2⟩ := HIN.out k hlt
      have hnx := snd_next hd
      have HMK : Hid (mv (k + 1) = mv k ++ [overL (mapC false s (lx ls k) (ly ls k)).1 (mapC false s (lx ls k) (ly ls k)).2 (mapC false s (sndX (lx ls k) (ld ls k)) (sndY (ly ls k) (ld ls k))).1 (mapC false s (sndX (lx ls k) (ld ls k)) (sndY (ly ls k) (ld ls k))).2]) := HMS.out k
      have HOV0 := Lib.hid (fun V => DominoOver_yes _ _ _ _ (next_mov false hs2 hxb hyb hxb2 hyb2 hnx) V)
      have HEN := Lib.hid (fun V => ends_any (lx ls k) (ly ls k) (ld ls k) V)
      have hk0 : (0 : Int) ≤ (k : Int) := by omega
      have hk1 : (k : Int) < (ls.length : Int) := by omega
      generalize sndX (lx ls k) (ld ls k) = x2 at *
      generalize sndY (ly ls k) (ld ls k) = y2 at *
      generalize lx ls k = x at *
      generalize ly ls k = y at *
      generalize ld ls k = d at *
      obtain ⟨nx, ny, nd, HON⟩ : ∃ nx ny nd, Hid (overL (mapC false s x y).1 (mapC false s x y).2 (mapC false s x2 y2).1 (mapC false s x2 y2).2 = (nx, ny, nd)) := ⟨_, _, _, rfl⟩
      have HMV : Hid (mv (k + 1) = mv k ++ [(nx, ny, nd)]) := by unfold Hid; rw [HMK.out, HON.out]
      have HOV : Hid (∀ V, Calls Tryz.prog 36 #[spotV (mapC false s x y).1 (mapC false s x y).2, spotV (mapC false s x2 y2).1 (mapC false s x2 y2).2] V fun e w' => e = .returned (.tuple #[triV nx ny nd, .bool true]) ∧ Below V.heap.size V w') := by
        have h9 := HOV0.out
        rw [HON.out] at h9
        exact h9
      have hm32 : (mv k).length ≤ 32 := by rw [hml]; omega
      generalize mv k = ys at *
      clear hx hy hz hbw HMK HOV0 HON hnx hd hml
      go_wp2_with fail
      obtain ⟨V0, hV0, k9, hbV0⟩ := one_alloc wr (triO x y d 51)
      rw [← hV0]
      obtain ⟨f0, f1, f2⟩ := tri_cells k9
      have HAV0 := Lib.hid (HA.out.below hbV0)
      clear hV0 k9 hbV0 hx' hy' hz'
      go_wp2_with fail
      refine (HEN.out _).mono ?_
      rintro e w3 ⟨rfl, hb3⟩
      have HA3 := Lib.hid (HAV0.out.below hb3)
      clear f0 f1 f2 hb3
      go_wp2_with fail
      obtain ⟨V, hV, k1, k2, hbV⟩ := two_alloc w3 (.cells #[.int .i64 x, .int .i64 y] 44) (.cells #[.int .i64 x2, .int .i64 y2] 44)
      rw [← hV]
      have HAV := Lib.hid (HA3.out.below hbV)
      have HN0 := Lib.hid (blk_below HN.out HAV.out.2.1)
      have HS0 : Hid (TwoC V V w3.heap.size (w3.heap.size + 1) x y x2 y2) := ⟨by rw [blk_cell k1]; rfl, by rw [blk_cell k1]; rfl, by rw [blk_cell k2]; rfl, by rw [blk_cell k2]; rfl, Nat.le_refl _, Below.refl _ _⟩
      have L1 := Lib.hid (lt_of_block k1)
      have L2 := Lib.hid (lt_of_block k2)
      clear hV k1 k2 hbV
      refine wp_region_held_drew (S := fun w' => TwoC V w' w3.heap.size (w3.heap.size + 1) x y x2 y2) (by kernel_rfl) (by exact HS0.out.drew) (fun hHeld => ?_)
      refine wpAnyH_take (i := 0) (oi := ⟨_, _, _, _, _, _⟩) (v := ?vap1785q1n0) rfl (by kernel_rfl) (by kernel_rfl) (by kernel_rfl) (fun _ _ _ h => h) (Or.inl ⟨by rfl, ?hap1785q1n0⟩) (by assumption) ?_
      case hap1785q1n0 => (intro w hSw; (try dsimp only at hSw); go_simp; try with_reducible rfl)
      try simp only [Act.put, List.setIfInBounds_toArray, List.set_cons_zero, List.set_cons_succ]
      refine wpAnyH_take (i := 1) (oi := ⟨_, _, _, _, _, _⟩) (v := ?vap1785q2n1) rfl (by kernel_rfl) (by kernel_rfl) (by kernel_rfl) (fun _ _ _ h => h) (Or.inl ⟨by rfl, ?hap1785q2n1⟩) (by assumption) ?_
      case hap1785q2n1 => (intro w hSw; (try dsimp only at hSw); go_simp; try with_reducible rfl)
      try simp only [Act.put, List.setIfInBounds_toArray, List.set_cons_zero, List.set_cons_succ]
      refine wpAnyH_take (i := 3) (oi := ⟨_, _, _, _, _, _⟩) (v := ?vap1785q3n3) rfl (by kernel_rfl) (by kernel_rfl) (by kernel_rfl) (fun _ _ _ h => h) (Or.inl ⟨by rfl, ?hap1785q3n3⟩) (by assumption) ?_
      case hap1785q3n3 => (intro w hSw; (try dsimp only at hSw); go_simp; try with_reducible rfl)
      try simp only [Act.put, List.setIfInBounds_toArray, List.set_cons_zero, List.set_cons_succ]
      refine wpAnyH_take (i := 4) (oi := ⟨_, _, _, _, _, _⟩) (v := ?vap1785q4n4) rfl (by kernel_rfl) (by kernel_rfl) (by kernel_rfl) (fun _ _ _ h => h) (Or.inl ⟨by rfl, ?hap1785q4n4⟩) (by assumption) ?_
      case hap1785q4n4 => (intro w hSw; (try dsimp only at hSw); go_simp; try with_reducible rfl)
      try simp only [Act.put, List.setIfInBounds_toArray, List.set_cons_zero, List.set_cons_succ]
      refine wpAnyH_ready (rs := [2, 10]) (by kernel_rfl) (by simp) ?_
      refine AllReadyH.cons (o := ⟨_, _, _, _, _, _⟩) rfl (fun K hK => ?cp1785q5n2) (AllReadyH.cons (o := ⟨_, _, _, _, _, _⟩) rfl (fun K hK => ?cp1785q5n10) AllReadyH.nil)
      case cp1785q5n2 =>
        go_simp
        go_at_call 19
        refine (mirror_one s x y (by omega) hxb hyb n0 _ (blk_below HN0.out (show TwoC V _ _ _ _ _ _ _ from hHeld).2.2.2.2.2)).mono ?_
        rintro e w9 ⟨rfl, hb9⟩
        have hS9 := TwoC.keep hb9 L1.out L2.out hHeld
        try replace HK7 := Lib.hid (blk_below HK7.out hb9)
        refine hK.out _ _ (by exact hS9) (fun hHeld => ?_)
        clear hK K
        try simp only [Act.put, List.setIfInBounds_toArray, List.set_cons_zero, List.set_cons_succ]
        refine wpAnyH_ready (rs := [5, 10]) (by kernel_rfl) (by simp) ?_
        refine AllReadyH.cons (o := ⟨_, _, _, _, _, _⟩) rfl (fun K hK => ?cp1785q6n5) (AllReadyH.cons (o := ⟨_, _, _, _, _, _⟩) rfl (fun K hK => ?cp1785q6n10) AllReadyH.nil)
        case cp1785q6n5 =>
          go_simp
          go_at_call 19
          refine (mirror_one s x2 y2 (by omega) hxb2 hyb2 n0 _ (blk_below HN0.out (show TwoC V _ _ _ _ _ _ _ from hHeld).2.2.2.2.2)).mono ?_
          rintro e w9 ⟨rfl, hb9⟩
          have hS9 := TwoC.keep hb9 L1.out L2.out hHeld
          try replace HK7 := Lib.hid (blk_below HK7.out hb9)
          refine hK.out _ _ (by exact hS9) (fun hHeld => ?_)
          clear hK K
          try simp only [Act.put, List.setIfInBounds_toArray, List.set_cons_zero, List.set_cons_succ]
          refine wpAnyH_ready (rs := [6, 10]) (by kernel_rfl) (by simp) ?_
          refine AllReadyH.cons (o := ⟨_, _, _, _, _, _⟩) rfl (fun K hK => ?cp1785q7n6) (AllReadyH.cons (o := ⟨_, _, _, _, _, _⟩) rfl (fun K hK => ?cp1785q7n10) AllReadyH.nil)
          case cp1785q7n6 =>
            go_simp
            go_at_call 36
            refine (HOV.out _).mono ?_
            rintro e w9 ⟨rfl, hb9⟩
            have hS9 := TwoC.keep hb9 L1.out L2.out hHeld
            try replace HK7 := Lib.hid (blk_below HK7.out hb9)
            refine hK.out _ _ (by exact hS9) (fun hHeld => ?_)
            clear hK K
            try simp only [Act.put, List.setIfInBounds_toArray, List.set_cons_zero, List.set_cons_succ]
            refine wpAnyH_take (i := 7) (oi := ⟨_, _, _, _, _, _⟩) (v := ?vap1785q8n7) rfl (by kernel_rfl) (by kernel_rfl) (by kernel_rfl) (fun _ _ _ h => h) (Or.inl ⟨by rfl, ?hap1785q8n7⟩) (by assumption) ?_
            case hap1785q8n7 => (intro w hSw; (try dsimp only at hSw); go_simp; try with_reducible rfl)
            try simp only [Act.put, List.setIfInBounds_toArray, List.set_cons_zero, List.set_cons_succ]
            refine wpAnyH_take (i := 8) (oi := ⟨_, _, _, _, _, _⟩) (v := ?vap1785q9n8) rfl (by kernel_rfl) (by kernel_rfl) (by kernel_rfl) (fun _ _ _ h => h) (Or.inl ⟨by rfl, ?hap1785q9n8⟩) (by assumption) ?_
            case hap1785q9n8 => (intro w hSw; (try dsimp only at hSw); go_simp; try with_reducible rfl)
            try simp only [Act.put, List.setIfInBounds_toArray, List.set_cons_zero, List.set_cons_succ]
            refine wpAnyH_take (i := 9) (oi := ⟨_, _, _, _, _, _⟩) (v := ?vap1785q10n9) rfl (by kernel_rfl) (by kernel_rfl) (by kernel_rfl) (fun _ _ _ h => h) (Or.inl ⟨by rfl, ?hap1785q10n9⟩) (by assumption) ?_
            case hap1785q10n9 => (intro w hSw; (try dsimp only at hSw); go_simp; try with_reducible rfl)
            try simp only [Act.put, List.setIfInBounds_toArray, List.set_cons_zero, List.set_cons_succ]
            refine wpAnyH_ready (rs := [10]) (by kernel_rfl) (by simp) ?_
            refine AllReadyH.cons (o := ⟨_, _, _, _, _, _⟩) rfl (fun K hK => ?_) AllReadyH.nil
            have HIX := Lib.hid (show TwoC V _ _ _ _ _ _ _ from hHeld).2.2.2.2.1
            go_simp
            generalize hw7 : World.alloc _ _ = w7
            have hb9 := (alloc_blk hw7).2
            have HK7 := Lib.hid (alloc_blk hw7).1
            first
              | have hS9 := TwoC.keepB hb9 HIX.out L1.out L2.out hHeld
              | (have hS9 := TwoC.drew (TwoC.keepB hb9 (Nat.le_refl _) L1.out L2.out HS0.out); replace HK7 := Lib.hid (show w7.drew.heap[_]? = _ from HK7.out))
            clear hw7
            refine hK.out _ _ (by exact hS9) (fun hHeld => ?_)
            clear hK K
            try simp only [Act.put, List.setIfInBounds_toArray, List.set_cons_zero, List.set_cons_succ]
            refine wpAnyH_ready (rs := [11]) (by kernel_rfl) (by simp) ?_
            refine AllReadyH.cons (o := ⟨_, _, _, _, _, _⟩) rfl (fun K hK => ?_) AllReadyH.nil
            obtain ⟨z0, z1, z2⟩ := tri_cells HK7.out
            have z3 : ∀ o, World.frozen? _ ⟨_, o, none⟩ = false := fun o => blk_free HK7.out
            go_simp
            generalize hw8 : World.setCell _ _ (.bool _) = w8
            have hs8 := tri_set HK7.out hw8
            have HK8 := Lib.hid hs8.1
            have hS9 := TwoC.keepB hs8.2 HIX.out L1.out L2.out hHeld
            clear hw8 hs8 z0 z1 z2 z3
            refine hK.out _ _ (by exact hS9) (fun hHeld => ?_)
            clear hK K
            try simp only [Act.put, List.setIfInBounds_toArray, List.set_cons_zero, List.set_cons_succ]
            refine wpAnyH_take (i := 12) (oi := ⟨_, _, _, _, _, _⟩) (v := ?vap1785q11n12) rfl (by kernel_rfl) (by kernel_rfl) (by kernel_rfl) (fun _ _ _ h => h) (Or.inl ⟨by rfl, ?hap1785q11n12⟩) (by assumption) ?_
            case hap1785q11n12 => (intro w hSw; (try dsimp only at hSw); go_simp; try with_reducible rfl)
            try simp only [Act.put, List.setIfInBounds_toArray, List.set_cons_zero, List.set_cons_succ]
            refine wpAnyH_done (by kernel_rfl) ?_ _
            have HA8 := Lib.hid (HAV.out.below (show TwoC V _ _ _ _ _ _ _ from hS9).2.2.2.2.2)
            obtain ⟨g0, g1, g2⟩ := tri_cells HK8.out
            go_wp2_with (at_builtin; refine wpList_push okDomino rfl _ _ rfl HA8.out rfl (nx, ny, nd) _ rfl _ rfl rfl (by omega) ?_; intro v10 w10 HA10 HG10)
            go_roundw
            case rel => exact ⟨k + 1, _, by omega, by go_num, rfl, by rw [HMV.out]; exact HA10⟩
            case measure => simp [intOf]; omega
          case cp1785q7n10 =>
            have HIX := Lib.hid (show TwoC V _ _ _ _ _ _ _ from hHeld).2.2.2.2.1
            go_simp
            generalize hw7 : World.alloc _ _ = w7
            have hb9 := (alloc_blk hw7).2
            have HK7 := Lib.hid (alloc_blk hw7).1
            first
              | have hS9 := TwoC.keepB hb9 HIX.out L1.out L2.out hHeld
              | (have hS9 := TwoC.drew (TwoC.keepB hb9 (Nat.le_refl _) L1.out L2.out HS0.out); replace HK7 := Lib.hid (show w7.drew.heap[_]? = _ from HK7.out))
            clear hw7
            refine hK.out _ _ (by exact hS9) (fun hHeld => ?_)
            clear hK K
            try simp only [Act.put, List.setIfInBounds_toArray, List.set_cons_zero, List.set_cons_succ]
            refine wpAnyH_ready (rs := [6]) (by kernel_rfl) (by simp) ?_
            refine AllReadyH.cons (o := ⟨_, _, _, _, _, _⟩) rfl (fun K hK => ?_) AllReadyH.nil
            go_simp
            go_at_call 36
            refine (HOV.out _).mono ?_
            rintro e w9 ⟨rfl, hb9⟩
            have hS9 := TwoC.keep hb9 L1.out L2.out hHeld
            try replace HK7 := Lib.hid (blk_below HK7.out hb9)
            refine hK.out _ _ (by exact hS9) (fun hHeld => ?_)
            clear hK K
            try simp only [Act.put, List.setIfInBounds_toArray, List.set_cons_zero, List.set_cons_succ]
            refine wpAnyH_take (i := 7) (oi := ⟨_, _, _, _, _, _⟩) (v := ?vap1785q12n7) rfl (by kernel_rfl) (by kernel_rfl) (by kernel_rfl) (fun _ _ _ h => h) (Or.inl ⟨by rfl, ?hap1785q12n7⟩) (by assumption) ?_
            case hap1785q12n7 => (intro w hSw; (try dsimp only at hSw); go_simp; try with_reducible rfl)
            try simp only [Act.put, List.setIfInBounds_toArray, List.set_cons_zero, List.set_cons_succ]
            refine wpAnyH_take (i := 8) (oi := ⟨_, _, _, _, _, _⟩) (v := ?vap1785q13n8) rfl (by kernel_rfl) (by kernel_rfl) (by kernel_rfl) (fun _ _ _ h => h) (Or.inl ⟨by rfl, ?hap1785q13n8⟩) (by assumption) ?_
            case hap1785q13n8 => (intro w hSw; (try dsimp only at hSw); go_simp; try with_reducible rfl)
            try simp only [Act.put, List.setIfInBounds_toArray, List.set_cons_zero, List.set_cons_succ]
            refine wpAnyH_take (i := 9) (oi := ⟨_, _, _, _, _, _⟩) (v := ?vap1785q14n9) rfl (by kernel_rfl) (by kernel_rfl) (by kernel_rfl) (fun _ _ _ h => h) (Or.inl ⟨by rfl, ?hap1785q14n9⟩) (by assumption) ?_
            case hap1785q14n9 => (intro w hSw; (try dsimp only at hSw); go_simp; try with_reducible rfl)
            try simp only [Act.put, List.setIfInBounds_toArray, List.set_cons_zero, List.set_cons_succ]
            refine wpAnyH_ready (rs := [11]) (by kernel_rfl) (by simp) ?_
            refine AllReadyH.cons (o := ⟨_, _, _, _, _, _⟩) rfl (fun K hK => ?_) AllReadyH.nil
            obtain ⟨z0, z1, z2⟩ := tri_cells HK7.out
            have z3 : ∀ o, World.frozen? _ ⟨_, o, none⟩ = false := fun o => blk_free HK7.out
            go_simp
            generalize hw8 : World.setCell _ _ (.bool _) = w8
            have hs8 := tri_set HK7.out hw8
            have HK8 := Lib.hid hs8.1
            have hS9 := TwoC.keepB hs8.2 HIX.out L1.out L2.out hHeld
            clear hw8 hs8 z0 z1 z2 z3
            refine hK.out _ _ (by exact hS9) (fun hHeld => ?_)
            clear hK K
            try simp only [Act.put, List.setIfInBounds_toArray, List.set_cons_zero, List.set_cons_succ]
            refine wpAnyH_take (i := 12) (oi := ⟨_, _, _, _, _, _⟩) (v := ?vap1785q15n12) rfl (by kernel_rfl) (by kernel_rfl) (by kernel_rfl) (fun _ _ _ h => h) (Or.inl ⟨by rfl, ?hap1785q15n12⟩) (by assumption) ?_
            case hap1785q15n12 => (intro w hSw; (try dsimp only at hSw); go_simp; try with_reducible rfl)
            try simp only [Act.put, List.setIfInBounds_toArray, List.set_cons_zero, List.set_cons_succ]
            refine wpAnyH_done (by kernel_rfl) ?_ _
            have HA8 := Lib.hid (HAV.out.below (show TwoC V _ _ _ _ _ _ _ from hS9).2.2.2.2.2)
            obtain ⟨g0, g1, g2⟩ := tri_cells HK8.out
            go_wp2_with (at_builtin; refine wpList_push okDomino rfl _ _ rfl HA8.out rfl (nx, ny, nd) _ rfl _ rfl rfl (by omega) ?_; intro v10 w10 HA10 HG10)
            go_roundw
            case rel => exact ⟨k + 1, _, by omega, by go_num, rfl, by rw [HMV.out]; exact HA10⟩
            case measure => simp [intOf]; omega
        case cp1785q6n10 =>
          have HIX := Lib.hid (show TwoC V _ _ _ _ _ _ _ from hHeld).2.2.2.2.1
          go_simp
          generalize hw7 : World.alloc _ _ = w7
          have hb9 := (alloc_blk hw7).2
          have HK7 := Lib.hid (alloc_blk hw7).1
          first
            | have hS9 := TwoC.keepB hb9 HIX.out L1.out L2.out hHeld
            | (have hS9 := TwoC.drew (TwoC.keepB hb9 (Nat.le_refl _) L1.out L2.out HS0.out); replace HK7 := Lib.hid (show w7.drew.heap[_]? = _ from HK7.out))
          clear hw7
          refine hK.out _ _ (by exact hS9) (fun hHeld => ?_)
          clear hK K
          try simp only [Act.put, List.setIfInBounds_toArray, List.set_cons_zero, List.set_cons_succ]
          refine wpAnyH_ready (rs := [5]) (by kernel_rfl) (by simp) ?_
          refine AllReadyH.cons (o := ⟨_, _, _, _, _, _⟩) rfl (fun K hK => ?_) AllReadyH.nil
          go_simp
          go_at_call 19
          refine (mirror_one s x2 y2 (by omega) hxb2 hyb2 n0 _ (blk_below HN0.out (show TwoC V _ _ _ _ _ _ _ from hHeld).2.2.2.2.2)).mono ?_
          rintro e w9 ⟨rfl, hb9⟩
          have hS9 := TwoC.keep hb9 L1.out L2.out hHeld
          try replace HK7 := Lib.hid (blk_below HK7.out hb9)
          refine hK.out _ _ (by exact hS9) (fun hHeld => ?_)
          clear hK K
          try simp only [Act.put, List.setIfInBounds_toArray, List.set_cons_zero, List.set_cons_succ]
          refine wpAnyH_ready (rs := [6]) (by kernel_rfl) (by simp) ?_
          refine AllReadyH.cons (o := ⟨_, _, _, _, _, _⟩) rfl (fun K hK => ?_) AllReadyH.nil
          go_simp
          go_at_call 36
          refine (HOV.out _).mono ?_
          rintro e w9 ⟨rfl, hb9⟩
          have hS9 := TwoC.keep hb9 L1.out L2.out hHeld
          try replace HK7 := Lib.hid (blk_below HK7.out hb9)
          refine hK.out _ _ (by exact hS9) (fun hHeld => ?_)
          clear hK K
          try simp only [Act.put, List.setIfInBounds_toArray, List.set_cons_zero, List.set_cons_succ]
          refine wpAnyH_take (i := 7) (oi := ⟨_, _, _, _, _, _⟩) (v := ?vap1785q16n7) rfl (by kernel_rfl) (by kernel_rfl) (by kernel_rfl) (fun _ _ _ h => h) (Or.inl ⟨by rfl, ?hap1785q16n7⟩) (by assumption) ?_
          case hap1785q16n7 => (intro w hSw; (try dsimp only at hSw); go_simp; try with_reducible rfl)
          try simp only [Act.put, List.setIfInBounds_toArray, List.set_cons_zero, List.set_cons_succ]
          refine wpAnyH_take (i := 8) (oi := ⟨_, _, _, _, _, _⟩) (v := ?vap1785q17n8) rfl (by kernel_rfl) (by kernel_rfl) (by kernel_rfl) (fun _ _ _ h => h) (Or.inl ⟨by rfl, ?hap1785q17n8⟩) (by assumption) ?_
          case hap1785q17n8 => (intro w hSw; (try dsimp only at hSw); go_simp; try with_reducible rfl)
          try simp only [Act.put, List.setIfInBounds_toArray, List.set_cons_zero, List.set_cons_succ]
          refine wpAnyH_take (i := 9) (oi := ⟨_, _, _, _, _, _⟩) (v := ?vap1785q18n9) rfl (by kernel_rfl) (by kernel_rfl) (by kernel_rfl) (fun _ _ _ h => h) (Or.inl ⟨by rfl, ?hap1785q18n9⟩) (by assumption) ?_
          case hap1785q18n9 => (intro w hSw; (try dsimp only at hSw); go_simp; try with_reducible rfl)
          try simp only [Act.put, List.setIfInBounds_toArray, List.set_cons_zero, List.set_cons_succ]
          refine wpAnyH_ready (rs := [11]) (by kernel_rfl) (by simp) ?_
          refine AllReadyH.cons (o := ⟨_, _, _, _, _, _⟩) rfl (fun K hK => ?_) AllReadyH.nil
          obtain ⟨z0, z1, z2⟩ := tri_cells HK7.out
          have z3 : ∀ o, World.frozen? _ ⟨_, o, none⟩ = false := fun o => blk_free HK7.out
          go_simp
          generalize hw8 : World.setCell _ _ (.bool _) = w8
          have hs8 := tri_set HK7.out hw8
          have HK8 := Lib.hid hs8.1
          have hS9 := TwoC.keepB hs8.2 HIX.out L1.out L2.out hHeld
          clear hw8 hs8 z0 z1 z2 z3
          refine hK.out _ _ (by exact hS9) (fun hHeld => ?_)
          clear hK K
          try simp only [Act.put, List.setIfInBounds_toArray, List.set_cons_zero, List.set_cons_succ]
          refine wpAnyH_take (i := 12) (oi := ⟨_, _, _, _, _, _⟩) (v := ?vap1785q19n12) rfl (by kernel_rfl) (by kernel_rfl) (by kernel_rfl) (fun _ _ _ h => h) (Or.inl ⟨by rfl, ?hap1785q19n12⟩) (by assumption) ?_
          case hap1785q19n12 => (intro w hSw; (try dsimp only at hSw); go_simp; try with_reducible rfl)
          try simp only [Act.put, List.setIfInBounds_toArray, List.set_cons_zero, List.set_cons_succ]
          refine wpAnyH_done (by kernel_rfl) ?_ _
          have HA8 := Lib.hid (HAV.out.below (show TwoC V _ _ _ _ _ _ _ from hS9).2.2.2.2.2)
          obtain ⟨g0, g1, g2⟩ := tri_cells HK8.out
          go_wp2_with (at_builtin; refine wpList_push okDomino rfl _ _ rfl HA8.out rfl (nx, ny, nd) _ rfl _ rfl rfl (by omega) ?_; intro v10 w10 HA10 HG10)
          go_roundw
          case rel => exact ⟨k + 1, _, by omega, by go_num, rfl, by rw [HMV.out]; exact HA10⟩
          case measure => simp [intOf]; omega
      case cp1785q5n10 =>
        have HIX := Lib.hid (show TwoC V _ _ _ _ _ _ _ from hHeld).2.2.2.2.1
        go_simp
        generalize hw7 : World.alloc _ _ = w7
        have hb9 := (alloc_blk hw7).2
        have HK7 := Lib.hid (alloc_blk hw7).1
        first
          | have hS9 := TwoC.keepB hb9 HIX.out L1.out L2.out hHeld
          | (have hS9 := TwoC.drew (TwoC.keepB hb9 (Nat.le_refl _) L1.out L2.out HS0.out); replace HK7 := Lib.hid (show w7.drew.heap[_]? = _ from HK7.out))
        clear hw7
        refine hK.out _ _ (by exact hS9) (fun hHeld => ?_)
        clear hK K
        try simp only [Act.put, List.setIfInBounds_toArray, List.set_cons_zero, List.set_cons_succ]
        refine wpAnyH_ready (rs := [2]) (by kernel_rfl) (by simp) ?_
        refine AllReadyH.cons (o := ⟨_, _, _, _, _, _⟩) rfl (fun K hK => ?_) AllReadyH.nil
        go_simp
        go_at_call 19
        refine (mirror_one s x y (by omega) hxb hyb n0 _ (blk_below HN0.out (show TwoC V _ _ _ _ _ _ _ from hHeld).2.2.2.2.2)).mono ?_
        rintro e w9 ⟨rfl, hb9⟩
        have hS9 := TwoC.keep hb9 L1.out L2.out hHeld
        try replace HK7 := Lib.hid (blk_below HK7.out hb9)
        refine hK.out _ _ (by exact hS9) (fun hHeld => ?_)
        clear hK K
        try simp only [Act.put, List.setIfInBounds_toArray, List.set_cons_zero, List.set_cons_succ]
        refine wpAnyH_ready (rs := [5]) (by kernel_rfl) (by simp) ?_
        refine AllReadyH.cons (o := ⟨_, _, _, _, _, _⟩) rfl (fun K hK => ?_) AllReadyH.nil
        go_simp
        go_at_call 19
        refine (mirror_one s x2 y2 (by omega) hxb2 hyb2 n0 _ (blk_below HN0.out (show TwoC V _ _ _ _ _ _ _ from hHeld).2.2.2.2.2)).mono ?_
        rintro e w9 ⟨rfl, hb9⟩
        have hS9 := TwoC.keep hb9 L1.out L2.out hHeld
        try replace HK7 := Lib.hid (blk_below HK7.out hb9)
        refine hK.out _ _ (by exact hS9) (fun hHeld => ?_)
        clear hK K
        try simp only [Act.put, List.setIfInBounds_toArray, List.set_cons_zero, List.set_cons_succ]
        refine wpAnyH_ready (rs := [6]) (by kernel_rfl) (by simp) ?_
        refine AllReadyH.cons (o := ⟨_, _, _, _, _, _⟩) rfl (fun K hK => ?_) AllReadyH.nil
        go_simp
        go_at_call 36
        refine (HOV.out _).mono ?_
        rintro e w9 ⟨rfl, hb9⟩
        have hS9 := TwoC.keep hb9 L1.out L2.out hHeld
        try replace HK7 := Lib.hid (blk_below HK7.out hb9)
        refine hK.out _ _ (by exact hS9) (fun hHeld => ?_)
        clear hK K
        try simp only [Act.put, List.setIfInBounds_toArray, List.set_cons_zero, List.set_cons_succ]
        refine wpAnyH_take (i := 7) (oi := ⟨_, _, _, _, _, _⟩) (v := ?vap1785q20n7) rfl (by kernel_rfl) (by kernel_rfl) (by kernel_rfl) (fun _ _ _ h => h) (Or.inl ⟨by rfl, ?hap1785q20n7⟩) (by assumption) ?_
        case hap1785q20n7 => (intro w hSw; (try dsimp only at hSw); go_simp; try with_reducible rfl)
        try simp only [Act.put, List.setIfInBounds_toArray, List.set_cons_zero, List.set_cons_succ]
        refine wpAnyH_take (i := 8) (oi := ⟨_, _, _, _, _, _⟩) (v := ?vap1785q21n8) rfl (by kernel_rfl) (by kernel_rfl) (by kernel_rfl) (fun _ _ _ h => h) (Or.inl ⟨by rfl, ?hap1785q21n8⟩) (by assumption) ?_
        case hap1785q21n8 => (intro w hSw; (try dsimp only at hSw); go_simp; try with_reducible rfl)
        try simp only [Act.put, List.setIfInBounds_toArray, List.set_cons_zero, List.set_cons_succ]
        refine wpAnyH_take (i := 9) (oi := ⟨_, _, _, _, _, _⟩) (v := ?vap1785q22n9) rfl (by kernel_rfl) (by kernel_rfl) (by kernel_rfl) (fun _ _ _ h => h) (Or.inl ⟨by rfl, ?hap1785q22n9⟩) (by assumption) ?_
        case hap1785q22n9 => (intro w hSw; (try dsimp only at hSw); go_simp; try with_reducible rfl)
        try simp only [Act.put, List.setIfInBounds_toArray, List.set_cons_zero, List.set_cons_succ]
        refine wpAnyH_ready (rs := [11]) (by kernel_rfl) (by simp) ?_
        refine AllReadyH.cons (o := ⟨_, _, _, _, _, _⟩) rfl (fun K hK => ?_) AllReadyH.nil
        obtain ⟨z0, z1, z2⟩ := tri_cells HK7.out
        have z3 : ∀ o, World.frozen? _ ⟨_, o, none⟩ = false := fun o => blk_free HK7.out
        go_simp
        generalize hw8 : World.setCell _ _ (.bool _) = w8
        have hs8 := tri_set HK7.out hw8
        have HK8 := Lib.hid hs8.1
        have hS9 := TwoC.keepB hs8.2 HIX.out L1.out L2.out hHeld
        clear hw8 hs8 z0 z1 z2 z3
        refine hK.out _ _ (by exact hS9) (fun hHeld => ?_)
        clear hK K
        try simp only [Act.put, List.setIfInBounds_toArray, List.set_cons_zero, List.set_cons_succ]
        refine wpAnyH_take (i := 12) (oi := ⟨_, _, _, _, _, _⟩) (v := ?vap1785q23n12) rfl (by kernel_rfl) (by kernel_rfl) (by kernel_rfl) (fun _ _ _ h => h) (Or.inl ⟨by rfl, ?hap1785q23n12⟩) (by assumption) ?_
        case hap1785q23n12 => (intro w hSw; (try dsimp only at hSw); go_simp; try with_reducible rfl)
        try simp only [Act.put, List.setIfInBounds_toArray, List.set_cons_zero, List.set_cons_succ]
        refine wpAnyH_done (by kernel_rfl) ?_ _
        have HA8 := Lib.hid (HAV.out.below (show TwoC V _ _ _ _ _ _ _ from hS9).2.2.2.2.2)
        obtain ⟨g0, g1, g2⟩ := tri_cells HK8.out
        go_wp2_with (at_builtin; refine wpList_push okDomino rfl _ _ rfl HA8.out rfl (nx, ny, nd) _ rfl _ rfl rfl (by omega) ?_; intro v10 w10 HA10 HG10)
        go_roundw
        case rel => exact ⟨k + 1, _, by omega, by go_num, rfl, by rw [HMV.out]; exact HA10⟩
        case measure => simp [intOf]; omega
    · obtain rfl : k = ls.length := by omega
      have ht : decide ((ls.length : Int) < (ls.length : Int)) = false := by simp
      have HRD := Lib.hid (HA.out.1.rd okDomino)
      have HML := Lib.hid hml
      clear hml
      have HBA := Lib.hid HA.out.2.1
      go_wp2_with fail
      refine (SortDominoes_any _ (mv ls.length) _ _ HRD.out (Nat.le_refl _)).mono ?_
      rintro e w9 ⟨u9, rfl, ho9, hb9⟩
      have ho9 : OwnF elDomino w9 wr.heap.size u9 (sortI (mv ls.length) ls.length) := by rw [HML.out] at ho9; exact ho9
      have HO9 := Lib.hid (ho9.mono HBA.out.size)
      have HB9 := Lib.hid (HBA.out.trans (hb9.mono HBA.out.size))
      clear ho9 hb9
      go_wp2_with fail
      exact bodyPost_ret (v := .tuple #[u9, .bool true]) (by simp [results, Tryz.results17, go_sem]) rfl ⟨_, rfl, HO9.out, HB9.out⟩

set_option maxRecDepth 100000 in
set_option maxHeartbeats 4000000 in
theorem moved_no (s : Int) (v fv : Value) (ls : List Lk) (B : Nat) (w : World) (h : RdF elDomino w B v ls) (hB : B ≤ w.heap.size) (hf : fltB s s ls = false) :
    Calls Tryz.prog 17 #[.int .i64 s, v, fv] w (RetTiling w false []) := by
  cases t1 : inB s 1 8
  · clear hf
    go_enter Tryz.func17, Tryz.ntmps17
    go_wp2_with fail
    refine (within_any _ _ _ _).mono ?_
    rintro e w' ⟨rfl, rfl⟩
    rw [t1]
    go_wp2_with fail
    exact bodyPost_ret (v := .tuple #[.slice none 0 0, .bool false]) (by simp [results, Tryz.results17, go_sem]) rfl ⟨_, rfl, OwnF.nil, Below.refl _ _⟩
  · have ha := (inB_iff _ _ _).1 t1
    obtain ⟨s, rfl⟩ := Int.eq_ofNat_of_zero_le (show 0 ≤ s by omega)
    have ht : sTileB (setZ (rectZ s s)) ls = false := by unfold fltB at hf; rw [t1] at hf; simpa using hf
    have hok := rectZ_ok s s (by omega) (by omega)
    have HT : Hid (tileB (setZ (rectZ s s)) ls = false) := by unfold Hid; rw [tile_eq (setZ_lt hok)]; exact ht
    have HOK := Lib.hid hok
    have HV := Lib.hid h
    clear hok ht h hf
    go_enter Tryz.func17, Tryz.ntmps17
    go_wp2_with fail
    refine (within_any _ _ _ _).mono ?_
    rintro e w' ⟨rfl, rfl⟩
    rw [t1]
    go_wp2_with fail
    refine (Rectangle_yes s s (by omega) (by omega) _).mono ?_
    rintro e w1 ⟨u1, rfl, hr1, hb1⟩
    have HR1 := Lib.hid hr1
    have HB1 := Lib.hid hb1
    clear hb1 hr1
    go_wp2_with fail
    refine (IsTiling_yes _ _ _ ls _ _ HR1.out ((HV.out.below (HB1.out.mono hB)).more (Nat.le_trans hB HB1.out.size)) (Nat.le_refl _) HOK.out).mono ?_
    rintro e w2 ⟨rfl, hb2⟩
    rw [HT.out]
    have HB2 := Lib.hid (HB1.out.trans (hb2.mono HB1.out.size))
    clear hb2
    go_wp2_with fail
    exact bodyPost_ret (v := .tuple #[.slice none 0 0, .bool false]) (by simp [results, Tryz.results17, go_sem]) rfl ⟨_, rfl, OwnF.nil, HB2.out⟩

set_option maxRecDepth 100000 in
set_option maxHeartbeats 4000000 in
theorem TurnTiling_any (s : Int) (v : Value) (ls : List Lk) (B : Nat) (w : World) (h : RdF elDomino w B v ls) (hB : B ≤ w.heap.size) :
    Calls Tryz.prog 6 #[.int .i64 s, v] w (RetTiling w (fltB s s ls) (movZ true s ls)) := by
  have hmf : ∀ (fn : Fn) (first cap : Array Value) (w : World), (Instr.makeFunc fn first cap).run Tryz.prog w = .ok (.func fn first cap) w := fun _ _ _ _ => rfl
  obtain ⟨W, hW, k0, hb⟩ := one_alloc w (.cells #[.int .i64 s] 3)
  have c0 : W.cell? ⟨w.heap.size, 0, none⟩ = some (.int .i64 s) := cell_of_one k0
  have HW := Lib.hid hW
  have HB := Lib.hid hb
  have HK := Lib.hid k0
  have HV := Lib.hid (h.below (hb.mono hB))
  have hBW := Nat.le_trans hB hb.size
  cases hf : fltB s s ls
  · have HZ : Hid (movZ true s ls = []) := by unfold Hid movZ; rw [hf]; rfl
    rw [HZ.out]
    have HC := Lib.hid (fun fv => moved_no s v fv ls B W HV.out hBW hf)
    clear hW hb k0 h hf HZ
    go_enter Tryz.func6, Tryz.ntmps6
    go_wp2_with fail
    rw [← HW.out]
    refine (HC.out _).mono ?_
    rintro e w1 ⟨u1, rfl, ho1, hb1⟩
    have HO1 := Lib.hid (ho1.mono HB.out.size)
    have HB1 := Lib.hid (HB.out.trans (hb1.mono HB.out.size))
    clear ho1 hb1
    go_wp2_with fail
    exact bodyPost_ret (v := .tuple #[u1, .bool false]) (by simp [results, Tryz.results6, go_sem]) rfl ⟨_, rfl, HO1.out, HB1.out⟩
  · obtain ⟨s, rfl⟩ : ∃ n : Nat, s = (n : Int) := by
      have h9 := hf
      unfold fltB at h9
      simp only [Bool.and_eq_true, inB_iff] at h9
      exact ⟨s.toNat, by omega⟩
    have HC := Lib.hid (moved_turn s v ls w.heap.size B W HV.out hBW k0 hf)
    generalize movZ true (s : Int) ls = zs at *
    clear hW hb k0 h hf
    go_enter Tryz.func6, Tryz.ntmps6
    go_wp2_with fail
    rw [← HW.out]
    refine HC.out.mono ?_
    rintro e w1 ⟨u1, rfl, ho1, hb1⟩
    have HO1 := Lib.hid (ho1.mono HB.out.size)
    have HB1 := Lib.hid (HB.out.trans (hb1.mono HB.out.size))
    clear ho1 hb1
    go_wp2_with fail
    exact bodyPost_ret (v := .tuple #[u1, .bool true]) (by simp [results, Tryz.results6, go_sem]) rfl ⟨_, rfl, HO1.out, HB1.out⟩

set_option maxRecDepth 100000 in
set_option maxHeartbeats 4000000 in
theorem MirrorTiling_any (s : Int) (v : Value) (ls : List Lk) (B : Nat) (w : World) (h : RdF elDomino w B v ls) (hB : B ≤ w.heap.size) :
    Calls Tryz.prog 7 #[.int .i64 s, v] w (RetTiling w (fltB s s ls) (movZ false s ls)) := by
  have hmf : ∀ (fn : Fn) (first cap : Array Value) (w : World), (Instr.makeFunc fn first cap).run Tryz.prog w = .ok (.func fn first cap) w := fun _ _ _ _ => rfl
  obtain ⟨W, hW, k0, hb⟩ := one_alloc w (.cells #[.int .i64 s] 3)
  have c0 : W.cell? ⟨w.heap.size, 0, none⟩ = some (.int .i64 s) := cell_of_one k0
  have HW := Lib.hid hW
  have HB := Lib.hid hb
  have HK := Lib.hid k0
  have HV := Lib.hid (h.below (hb.mono hB))
  have hBW := Nat.le_trans hB hb.size
  cases hf : fltB s s ls
  · have HZ : Hid (movZ false s ls = []) := by unfold Hid movZ; rw [hf]; rfl
    rw [HZ.out]
    have HC := Lib.hid (fun fv => moved_no s v fv ls B W HV.out hBW hf)
    clear hW hb k0 h hf HZ
    go_enter Tryz.func7, Tryz.ntmps7
    go_wp2_with fail
    rw [← HW.out]
    refine (HC.out _).mono ?_
    rintro e w1 ⟨u1, rfl, ho1, hb1⟩
    have HO1 := Lib.hid (ho1.mono HB.out.size)
    have HB1 := Lib.hid (HB.out.trans (hb1.mono HB.out.size))
    clear ho1 hb1
    go_wp2_with fail
    exact bodyPost_ret (v := .tuple #[u1, .bool false]) (by simp [results, Tryz.results7, go_sem]) rfl ⟨_, rfl, HO1.out, HB1.out⟩
  · obtain ⟨s, rfl⟩ : ∃ n : Nat, s = (n : Int) := by
      have h9 := hf
      unfold fltB at h9
      simp only [Bool.and_eq_true, inB_iff] at h9
      exact ⟨s.toNat, by omega⟩
    have HC := Lib.hid (moved_mirror s v ls w.heap.size B W HV.out hBW k0 hf)
    generalize movZ false (s : Int) ls = zs at *
    clear hW hb k0 h hf
    go_enter Tryz.func7, Tryz.ntmps7
    go_wp2_with fail
    rw [← HW.out]
    refine HC.out.mono ?_
    rintro e w1 ⟨u1, rfl, ho1, hb1⟩
    have HO1 := Lib.hid (ho1.mono HB.out.size)
    have HB1 := Lib.hid (HB.out.trans (hb1.mono HB.out.size))
    clear ho1 hb1
    go_wp2_with fail
    exact bodyPost_ret (v := .tuple #[u1, .bool true]) (by simp [results, Tryz.results7, go_sem]) rfl ⟨_, rfl, HO1.out, HB1.out⟩
end Go.Proofs.YtehnbalbpfmijaaGreatDoor

namespace Go.Proofs.YtehnbalbpfmijaaGreatDoor
open Go.RowKit
set_option linter.unusedVariables false

/-- A list, turned k times. -/
def trnK (s : Int) (ls : List Lk) : Nat → List Lk
  | 0 => ls
  | k + 1 => movZ true s (trnK s ls k)
def seenZ (s : Int) (ls : List Lk) (k : Nat) (m : Bool) : List Lk := trnK s (if m then movZ false s ls else ls) k
/-- A list that can be read. -/
def RetRd (w : World) (xs : List Lk) (e : Ending) (w' : World) : Prop := ∃ u, e = .returned u ∧ RdF elDomino w' w'.heap.size u xs ∧ Below w.heap.size w w'
set_option maxRecDepth 100000 in
set_option maxHeartbeats 4000000 in
theorem seen_loop (s : Int) (tn : Nat) (htn : tn ≤ 3) (v : Value) (ls : List Lk) (m : Bool) (B : Nat) (w : World) (h : RdF elDomino w B v ls) (hB : B ≤ w.heap.size) :
    Calls Tryz.prog 23 #[.int .i64 s, v, .int .i64 (tn : Int), .bool m] w (RetRd w (seenZ s ls tn m)) := by
  obtain ⟨zs, HZS⟩ : ∃ zs, Hid ((if m then movZ false s ls else ls) = zs) := ⟨_, rfl⟩
  have HZ : Hid (seenZ s ls tn m = trnK s zs tn) := by unfold Hid seenZ; rw [HZS.out]
  rw [HZ.out]
  have HST : Hid (∀ k, trnK s zs (k + 1) = movZ true s (trnK s zs k)) := fun k => rfl
  have HS0 : Hid (trnK s zs 0 = zs) := rfl
  obtain ⟨st, HE⟩ : ∃ st, Hid (st = trnK s zs) := ⟨_, rfl⟩
  rw [← HE.out] at HST HS0 ⊢
  clear HZ HE
  have HMT := Lib.hid (fun v ls B w h hB => MirrorTiling_any s v ls B w h hB)
  have HTT := Lib.hid (fun v ls B w h hB => TurnTiling_any s v ls B w h hB)
  have HV := Lib.hid (h.more hB)
  obtain ⟨A, c, rfl, g1, g2, _⟩ := h
  unfold maxLen at g2
  cases m
  · obtain rfl : ls = zs := HZS.out
    clear HZS
    go_enter Tryz.func23, Tryz.ntmps23
    go_wp2_with fail
    go_loopw [1, 17] (fun l i wr => ∃ (k : Nat) (u : Value), k ≤ tn ∧ i = .int .i64 (k : Int) ∧ u = l ∧ Hid (RdF elDomino wr wr.heap.size u (st k)) ∧ Hid (Below w.heap.size w wr)) (fun _ i _ => tn - (intOf i).toNat)
    case atStart => exact ⟨0, _, Nat.zero_le _, rfl, rfl, by rw [HS0.out]; exact HV, Below.refl _ _⟩
    case round =>
      obtain ⟨k, u, hk, rfl, rfl, HR, HB⟩ := hrel
      obtain ⟨A1, c1, rfl, q1, q2, _⟩ := id HR.out
      unfold maxLen at q2
      by_cases hlt : k < tn
      · have ht : decide ((k : Int) < (tn : Int)) = true := by simp only [decide_eq_true_eq]; omega
        have HT := Lib.hid (HTT.out _ (st k) _ wr HR.out (Nat.le_refl _))
        have HSK := Lib.hid (HST.out k)
        rw [← HSK.out] at HT
        have hk0 : (0 : Int) ≤ (k : Int) := by omega
        have hk1 : (k : Int) < 3 := by omega
        clear HSK
        go_wp2_with fail
        refine HT.out.mono ?_
        rintro e w2 ⟨u2, rfl, ho2, hb2⟩
        have HR2 := Lib.hid (ho2.rd okDomino)
        have HB2 := Lib.hid (HB.out.trans (hb2.mono HB.out.size))
        clear ho2 hb2
        obtain ⟨A2, c2, rfl, r1, r2, _⟩ := id HR2.out
        go_wp2_with fail
        go_roundw
        case rel => exact ⟨k + 1, _, by omega, by go_num, rfl, HR2.out, HB2⟩
        case measure => simp [intOf]; omega
      · obtain rfl : k = tn := by omega
        have ht : decide ((k : Int) < (k : Int)) = false := by simp
        go_wp2_with fail
        go_ret
        exact ⟨_, rfl, HR.out, HB.out⟩
  · have HZ0 : Hid (movZ false s ls = zs) := HZS.out
    have HM := Lib.hid (HMT.out _ ls _ w HV.out (Nat.le_refl _))
    rw [HZ0.out] at HM
    clear HZS
    go_enter Tryz.func23, Tryz.ntmps23
    go_wp2_with fail
    refine HM.out.mono ?_
    rintro e w1 ⟨u1, rfl, ho1, hb1⟩
    have HR1 := Lib.hid (ho1.rd okDomino)
    have HB1 := Lib.hid hb1
    clear ho1 hb1
    obtain ⟨A0, c0, rfl, r1, r2, _⟩ := id HR1.out
    unfold maxLen at r2
    go_wp2_with fail
    go_loopw [1, 17] (fun l i wr => ∃ (k : Nat) (u : Value), k ≤ tn ∧ i = .int .i64 (k : Int) ∧ u = l ∧ Hid (RdF elDomino wr wr.heap.size u (st k)) ∧ Hid (Below w.heap.size w wr)) (fun _ i _ => tn - (intOf i).toNat)
    case atStart => exact ⟨0, _, Nat.zero_le _, rfl, rfl, by rw [HS0.out]; exact HR1, HB1⟩
    case round =>
      obtain ⟨k, u, hk, rfl, rfl, HR, HB⟩ := hrel
      obtain ⟨A1, c1, rfl, q1, q2, _⟩ := id HR.out
      unfold maxLen at q2
      by_cases hlt : k < tn
      · have ht : decide ((k : Int) < (tn : Int)) = true := by simp only [decide_eq_true_eq]; omega
        have HT := Lib.hid (HTT.out _ (st k) _ wr HR.out (Nat.le_refl _))
        have HSK := Lib.hid (HST.out k)
        rw [← HSK.out] at HT
        have hk0 : (0 : Int) ≤ (k : Int) := by omega
        have hk1 : (k : Int) < 3 := by omega
        clear HSK
        go_wp2_with fail
        refine HT.out.mono ?_
        rintro e w2 ⟨u2, rfl, ho2, hb2⟩
        have HR2 := Lib.hid (ho2.rd okDomino)
        have HB2 := Lib.hid (HB.out.trans (hb2.mono HB.out.size))
        clear ho2 hb2
        obtain ⟨A2, c2, rfl, s1, s2, _⟩ := id HR2.out
        go_wp2_with fail
        go_roundw
        case rel => exact ⟨k + 1, _, by omega, by go_num, rfl, HR2.out, HB2⟩
        case measure => simp [intOf]; omega
      · obtain rfl : k = tn := by omega
        have ht : decide ((k : Int) < (k : Int)) = false := by simp
        go_wp2_with fail
        go_ret
        exact ⟨_, rfl, HR.out, HB.out⟩
end Go.Proofs.YtehnbalbpfmijaaGreatDoor

namespace Go.Proofs.YtehnbalbpfmijaaGreatDoor
open Go.RowKit
set_option linter.unusedVariables false

/-- The first k dominoes are the same. -/
def sameTo (xs ys : List Lk) (k : Nat) : Prop := ∀ i, i < k → dAt xs i = dAt ys i
theorem sameD_all {xs ys : List Lk} (hl : xs.length = ys.length) (h : sameTo xs ys xs.length) : decide (xs = ys) = true := by
  rw [decide_eq_true_eq]
  refine List.ext_getElem hl fun i h1 h2 => ?_
  have := h i h1
  rw [dAt_get xs i h1, dAt_get ys i h2] at this
  exact this
theorem sameD_not {xs ys : List Lk} {i : Nat} (h : dAt xs i ≠ dAt ys i) : decide (xs = ys) = false := by
  rw [decide_eq_false_iff_not]
  intro e; subst e; exact h rfl
theorem sameD_len {xs ys : List Lk} (h : xs.length ≠ ys.length) : decide (xs = ys) = false := by
  rw [decide_eq_false_iff_not]
  intro e; subst e; exact h rfl

set_option maxRecDepth 100000 in
set_option maxHeartbeats 4000000 in
theorem SameD_any (u v : Value) (xs ys : List Lk) (B : Nat) (w : World) (hu : RdF elDomino w B u xs) (hv : RdF elDomino w B v ys) (hB : B ≤ w.heap.size) :
    Calls Tryz.prog 22 #[u, v] w fun e w' => e = .returned (.bool (decide (xs = ys))) ∧ Drawn w w' := by
  obtain ⟨A, c, rfl, g1, g2, G3⟩ := RdT.of (E := elDomino) rfl (fun _ => rfl) hu
  obtain ⟨A2, c2, rfl, q1, q2, G4⟩ := RdT.of (E := elDomino) rfl (fun _ => rfl) hv
  unfold maxLen at g2 q2
  clear hu hv
  by_cases hl : xs.length = ys.length
  · have hne0 : ((xs.length : Int) != (ys.length : Int)) = false := by rw [hl]; simp
    go_enter Tryz.func22, Tryz.ntmps22
    go_wp2_with fail
    go_loopw [13] (fun s wr => ∃ k : Nat, k ≤ xs.length ∧ s = .int .i64 k ∧ Hid (Drawn w wr) ∧ Hid (sameTo xs ys k)) (fun s _ => xs.length - (intOf s).toNat)
    case atStart => exact ⟨0, Nat.zero_le _, rfl, Drawn.refl _, fun i hi => by omega⟩
    case round =>
      obtain ⟨k, hk, rfl, HD, HS⟩ := hrel
      by_cases hlt : k < xs.length
      · have ht : decide ((k : Int) < (xs.length : Int)) = true := by simp only [decide_eq_true_eq]; omega
        obtain ⟨ad, rfl, had, hx, hy, hz⟩ := G3.out k hlt
        obtain ⟨ad2, rfl, had2, hx2, hy2, hz2⟩ := G4.out k (by omega)
        have hb := HD.out.below w.heap.size
        have hx' := (hb.cell (p := ad.add (k * 3)) (by rw [addBlock]; omega)).trans hx
        have hy' := (hb.cell (p := ⟨(ad.add (k * 3)).block, (ad.add (k * 3)).off + 1, none⟩) (by show (ad.add (k * 3)).block < _; rw [addBlock]; omega)).trans hy
        have hz' := (hb.cell (p := ⟨(ad.add (k * 3)).block, (ad.add (k * 3)).off + 2, none⟩) (by show (ad.add (k * 3)).block < _; rw [addBlock]; omega)).trans hz
        have ux := (hb.cell (p := ad2.add (k * 3)) (by rw [addBlock]; omega)).trans hx2
        have uy := (hb.cell (p := ⟨(ad2.add (k * 3)).block, (ad2.add (k * 3)).off + 1, none⟩) (by show (ad2.add (k * 3)).block < _; rw [addBlock]; omega)).trans hy2
        have uz := (hb.cell (p := ⟨(ad2.add (k * 3)).block, (ad2.add (k * 3)).off + 2, none⟩) (by show (ad2.add (k * 3)).block < _; rw [addBlock]; omega)).trans hz2
        have hk0 : (0 : Int) ≤ (k : Int) := by omega
        have hk1 : (k : Int) < (xs.length : Int) := by omega
        have hk2 : (k : Int) < (ys.length : Int) := by omega
        have hk3 : k < ys.length := by omega
        have HEY : Hid (dAt xs k = (lx xs k, ly xs k, ld xs k)) := rfl
        have HEX : Hid (dAt ys k = (lx ys k, ly ys k, ld ys k)) := rfl
        clear hx hy hz hx2 hy2 hz2 hb
        generalize lx xs k = p1 at *
        generalize ly xs k = p2 at *
        generalize ld xs k = p3 at *
        generalize lx ys k = r1 at *
        generalize ly ys k = r2 at *
        generalize ld ys k = r3 at *
        by_cases e1 : p1 = r1
        · subst e1
          by_cases e2 : p2 = r2
          · subst e2
            by_cases e3 : p3 = r3
            · subst e3
              have HS2 : Hid (sameTo xs ys (k + 1)) := fun i hi => by
                by_cases e : i = k
                · subst e; rw [HEY.out, HEX.out]
                · exact HS.out i (by omega)
              go_wp2_with fail
              go_quiet (fail)
              go_wp2_with fail
              go_roundw
              case rel => exact ⟨k + 1, by omega, by go_num, HD.out.trans ⟨_, rfl⟩, HS2⟩
              case measure => simp [intOf]; omega
            · have f3 : (p3 == r3) = false := by rw [beq_eq_false_iff_ne]; exact e3
              have hno := sameD_not (i := k) (xs := xs) (ys := ys) (by rw [HEY.out, HEX.out]; simp [e3])
              go_wp2_with fail
              go_quiet (fail)
              go_wp2_with fail
              go_ret
              exact ⟨ret_bool hno.symm, HD.out.trans ⟨_, rfl⟩⟩
          · have f2 : (p2 == r2) = false := by rw [beq_eq_false_iff_ne]; exact e2
            have hno := sameD_not (i := k) (xs := xs) (ys := ys) (by rw [HEY.out, HEX.out]; simp [e2])
            go_wp2_with fail
            go_quiet (fail)
            go_wp2_with fail
            go_ret
            exact ⟨ret_bool hno.symm, HD.out.trans ⟨_, rfl⟩⟩
        · have f1 : (p1 == r1) = false := by rw [beq_eq_false_iff_ne]; exact e1
          have hno := sameD_not (i := k) (xs := xs) (ys := ys) (by rw [HEY.out, HEX.out]; simp [e1])
          go_wp2_with fail
          go_quiet (fail)
          go_wp2_with fail
          go_ret
          exact ⟨ret_bool hno.symm, HD.out.trans ⟨_, rfl⟩⟩
      · have ht : decide ((k : Int) < (xs.length : Int)) = false := by simp only [decide_eq_false_iff_not]; omega
        obtain rfl : k = xs.length := by omega
        have hyes := sameD_all hl HS.out
        go_wp2_with fail
        go_ret
        exact ⟨ret_bool hyes.symm, HD.out⟩
  · have hne0 : ((xs.length : Int) != (ys.length : Int)) = true := by simp; omega
    have hno := sameD_len hl
    go_enter Tryz.func22, Tryz.ntmps22
    go_wp2_with fail
    go_ret
    exact ⟨ret_bool hno.symm, Drawn.refl _⟩

set_option maxRecDepth 100000 in
set_option maxHeartbeats 4000000 in
theorem specSameD_any (u v : Value) (xs ys : List Lk) (B : Nat) (w : World) (hu : RdF elDomino w B u xs) (hv : RdF elDomino w B v ys) (hB : B ≤ w.heap.size) :
    Calls Tryz.prog 10 #[u, v] w fun e w' => e = .returned (.bool (decide (xs = ys))) ∧ Drawn w w' := by
  obtain ⟨A, c, rfl, g1, g2, G3⟩ := RdT.of (E := elDomino) rfl (fun _ => rfl) hu
  obtain ⟨A2, c2, rfl, q1, q2, G4⟩ := RdT.of (E := elDomino) rfl (fun _ => rfl) hv
  unfold maxLen at g2 q2
  clear hu hv
  by_cases hl : xs.length = ys.length
  · have hne0 : ((xs.length : Int) != (ys.length : Int)) = false := by rw [hl]; simp
    go_enter Tryz.func10, Tryz.ntmps10
    go_wp2_with fail
    go_loopw [5] (fun s wr => ∃ k : Nat, k ≤ xs.length ∧ s = .int .i64 k ∧ Hid (Drawn w wr) ∧ Hid (sameTo xs ys k)) (fun s _ => xs.length - (intOf s).toNat)
    case atStart => exact ⟨0, Nat.zero_le _, rfl, Drawn.refl _, fun i hi => by omega⟩
    case round =>
      obtain ⟨k, hk, rfl, HD, HS⟩ := hrel
      by_cases hlt : k < xs.length
      · have ht : decide ((k : Int) < (xs.length : Int)) = true := by simp only [decide_eq_true_eq]; omega
        obtain ⟨ad, rfl, had, hx, hy, hz⟩ := G3.out k hlt
        obtain ⟨ad2, rfl, had2, hx2, hy2, hz2⟩ := G4.out k (by omega)
        have hb := HD.out.below w.heap.size
        have hx' := (hb.cell (p := ad.add (k * 3)) (by rw [addBlock]; omega)).trans hx
        have hy' := (hb.cell (p := ⟨(ad.add (k * 3)).block, (ad.add (k * 3)).off + 1, none⟩) (by show (ad.add (k * 3)).block < _; rw [addBlock]; omega)).trans hy
        have hz' := (hb.cell (p := ⟨(ad.add (k * 3)).block, (ad.add (k * 3)).off + 2, none⟩) (by show (ad.add (k * 3)).block < _; rw [addBlock]; omega)).trans hz
        have ux := (hb.cell (p := ad2.add (k * 3)) (by rw [addBlock]; omega)).trans hx2
        have uy := (hb.cell (p := ⟨(ad2.add (k * 3)).block, (ad2.add (k * 3)).off + 1, none⟩) (by show (ad2.add (k * 3)).block < _; rw [addBlock]; omega)).trans hy2
        have uz := (hb.cell (p := ⟨(ad2.add (k * 3)).block, (ad2.add (k * 3)).off + 2, none⟩) (by show (ad2.add (k * 3)).block < _; rw [addBlock]; omega)).trans hz2
        have hk0 : (0 : Int) ≤ (k : Int) := by omega
        have hk1 : (k : Int) < (xs.length : Int) := by omega
        have hk2 : (k : Int) < (ys.length : Int) := by omega
        have hk3 : k < ys.length := by omega
        have HEY : Hid (dAt xs k = (lx xs k, ly xs k, ld xs k)) := rfl
        have HEX : Hid (dAt ys k = (lx ys k, ly ys k, ld ys k)) := rfl
        clear hx hy hz hx2 hy2 hz2 hb
        generalize lx xs k = p1 at *
        generalize ly xs k = p2 at *
        generalize ld xs k = p3 at *
        generalize lx ys k = r1 at *
        generalize ly ys k = r2 at *
        generalize ld ys k = r3 at *
        by_cases e1 : p1 = r1
        · subst e1
          by_cases e2 : p2 = r2
          · subst e2
            by_cases e3 : p3 = r3
            · subst e3
              have HS2 : Hid (sameTo xs ys (k + 1)) := fun i hi => by
                by_cases e : i = k
                · subst e; rw [HEY.out, HEX.out]
                · exact HS.out i (by omega)
              go_wp2_with fail
              go_quiet (fail)
              go_wp2_with fail
              go_roundw
              case rel => exact ⟨k + 1, by omega, by go_num, HD.out.trans ⟨_, rfl⟩, HS2⟩
              case measure => simp [intOf]; omega
            · have f3 : (p3 == r3) = false := by rw [beq_eq_false_iff_ne]; exact e3
              have hno := sameD_not (i := k) (xs := xs) (ys := ys) (by rw [HEY.out, HEX.out]; simp [e3])
              go_wp2_with fail
              go_quiet (fail)
              go_wp2_with fail
              go_ret
              exact ⟨ret_bool hno.symm, HD.out.trans ⟨_, rfl⟩⟩
          · have f2 : (p2 == r2) = false := by rw [beq_eq_false_iff_ne]; exact e2
            have hno := sameD_not (i := k) (xs := xs) (ys := ys) (by rw [HEY.out, HEX.out]; simp [e2])
            go_wp2_with fail
            go_quiet (fail)
            go_wp2_with fail
            go_ret
            exact ⟨ret_bool hno.symm, HD.out.trans ⟨_, rfl⟩⟩
        · have f1 : (p1 == r1) = false := by rw [beq_eq_false_iff_ne]; exact e1
          have hno := sameD_not (i := k) (xs := xs) (ys := ys) (by rw [HEY.out, HEX.out]; simp [e1])
          go_wp2_with fail
          go_quiet (fail)
          go_wp2_with fail
          go_ret
          exact ⟨ret_bool hno.symm, HD.out.trans ⟨_, rfl⟩⟩
      · have ht : decide ((k : Int) < (xs.length : Int)) = false := by simp only [decide_eq_false_iff_not]; omega
        obtain rfl : k = xs.length := by omega
        have hyes := sameD_all hl HS.out
        go_wp2_with fail
        go_ret
        exact ⟨ret_bool hyes.symm, HD.out⟩
  · have hne0 : ((xs.length : Int) != (ys.length : Int)) = true := by simp; omega
    have hno := sameD_len hl
    go_enter Tryz.func10, Tryz.ntmps10
    go_wp2_with fail
    go_ret
    exact ⟨ret_bool hno.symm, Drawn.refl _⟩
end Go.Proofs.YtehnbalbpfmijaaGreatDoor

namespace Go.Proofs.YtehnbalbpfmijaaGreatDoor
open Go.RowKit
set_option linter.unusedVariables false

theorem NRel.rdD {w wr : World} {base lo hi : Nat} {v : Value} {xs : List (List Lk)} (h : NRel (kdF elDomino) eDD w base lo wr hi v xs) : RdN (RdF elDomino) wr wr.heap.size v xs :=
  h.rdN (K := kdF elDomino) okDD fun _ _ _ _ _ hx => hx.1.rd okDomino
theorem RdN.belowD {w w' : World} {B : Nat} {v : Value} {xs : List (List Lk)} (h : RdN (RdF elDomino) w B v xs) (hb : Below B w w') : RdN (RdF elDomino) w' B v xs := RdN.below (fun _ _ hx => RdF.below hx hb) h hb
/-- All tilings of a square. -/
def allT (s : Nat) : List (List Lk) := lstE 61 (setZ (rectZ s s)) [] []
theorem fix_tab : ([2, 4].all fun s => decide (bitsN (setZ (rectZ s s)) ≤ 60) && decide (1 ≤ profZ (setZ (rectZ s s))) && decide (profZ (setZ (rectZ s s)) ≤ 300) && decide ((allT s).length ≤ 300)) = true := by decide +kernel
theorem fix_at {s : Nat} (hs : s = 2 ∨ s = 4) : bitsN (setZ (rectZ s s)) ≤ 60 ∧ (1 ≤ profZ (setZ (rectZ s s)) ∧ profZ (setZ (rectZ s s)) ≤ 300) ∧ (allT s).length ≤ 300 := by
  have h := List.all_eq_true.1 fix_tab s (by rcases hs with rfl | rfl <;> simp)
  simp only [Bool.and_eq_true, decide_eq_true_eq] at h
  exact ⟨h.1.1.1, ⟨h.1.1.2, h.1.2⟩, h.2⟩
set_option maxRecDepth 100000 in
theorem ListT_sq (s : Nat) (hs : s = 2 ∨ s = 4) (v : Value) (B : Nat) (w : World) (h : RdI w B v (rectZ s s)) (hB : B ≤ w.heap.size) :
    Calls Tryz.prog 21 #[.agg #[v]] w (RetN (kdF elDomino) eDD w (allT s)) := by
  obtain ⟨hb1, hb2, hb3⟩ := fix_at hs
  have hok := rectZ_ok s s (by omega) (by omega)
  generalize hz : rectZ s s = zs at *
  have ha : allT s = lstE 61 (setZ zs) [] [] := by unfold allT; rw [hz]
  rw [ha] at hb3 ⊢
  exact ListTilings_yes v zs B w h hB hok hb1 hb2 (Nat.le_trans hb3 (by omega))
/-- How many of the first k lists have a property. -/
def numTo (p : List Lk → Bool) (L : List (List Lk)) (k : Nat) : Nat := (L.take k).countP p
theorem numTo_step (p : List Lk → Bool) (L : List (List Lk)) (k : Nat) (h : k < L.length) : numTo p L (k + 1) = numTo p L k + if p L[k] then 1 else 0 := by
  unfold numTo
  rw [List.take_succ_eq_append_getElem h, List.countP_append]
  simp
theorem numTo_le (p : List Lk → Bool) (L : List (List Lk)) (k : Nat) : numTo p L k ≤ k := by
  unfold numTo
  exact Nat.le_trans (List.countP_le_length) (by rw [List.length_take]; omega)
def fixB (s : Int) (tn : Nat) (m : Bool) (ls : List Lk) : Bool := decide (seenZ s ls tn m = ls)
def fixN (s tn : Nat) (m : Bool) : Nat := numTo (fixB s tn m) (allT s) (allT s).length
end Go.Proofs.YtehnbalbpfmijaaGreatDoor

namespace Go.Proofs.YtehnbalbpfmijaaGreatDoor
open Go.RowKit
set_option linter.unusedVariables false

set_option maxRecDepth 100000 in
set_option maxHeartbeats 4000000 in
theorem CountFixed_yes2 (s : Nat) (hs2 : s = 2) (tn : Nat) (htn : tn ≤ 3) (m : Bool) (w : World) :
    Calls Tryz.prog 9 #[.int .i64 (s : Int), .int .i64 (tn : Int), .bool m] w fun e w' => e = .returned (.int .i64 (fixN s tn m : Nat)) ∧ Below w.heap.size w w' := by
  have hs : s = 2 ∨ s = 4 := by omega
  obtain ⟨hb1, hb2, hb3⟩ := fix_at hs
  have HFN : Hid (fixN s tn m = numTo (fixB s tn m) (allT s) (allT s).length) := rfl
  rw [HFN.out]
  have HLT := Lib.hid (ListT_sq s hs)
  have HRC := Lib.hid (Rectangle_yes s s (by omega) (by omega))
  have HSN := Lib.hid (fun v ls B w h hB => seen_loop (s : Int) tn htn v ls m B w h hB)
  have HFB : Hid (∀ ls, fixB s tn m ls = decide (seenZ s ls tn m = ls)) := fun _ => rfl
  generalize rectZ s s = rz at *
  generalize allT s = L at *
  obtain ⟨p, HP⟩ : ∃ p, Hid (fixB s tn m = p) := ⟨_, rfl⟩
  rw [HP.out] at HFB ⊢
  obtain ⟨sz, HSZ⟩ : ∃ sz, Hid ((fun ls => seenZ (s : Int) ls tn m) = sz) := ⟨_, rfl⟩
  have hsz : ∀ ls, seenZ (s : Int) ls tn m = sz ls := fun ls => by rw [← HSZ.out]
  simp only [hsz, Hid] at HSN HFB
  replace HSN := Lib.hid HSN; replace HFB := Lib.hid HFB
  have HNS := Lib.hid (numTo_step p L)
  have HNL := Lib.hid (numTo_le p L)
  have HN0 : Hid (numTo p L 0 = 0) := rfl
  obtain ⟨nt, HNT⟩ : ∃ nt, Hid (nt = numTo p L) := ⟨_, rfl⟩
  rw [← HNT.out] at HNS HNL HN0 ⊢
  clear HFN HP HSZ hsz HNT hb1 hb2
  have hc2' : ((s : Int) != 2) = false := by rw [hs2]; rfl
  have hin : inB (tn : Int) 0 3 = true := by rw [inB_iff]; omega
  clear hs2 hs
  go_enter Tryz.func9, Tryz.ntmps9
  go_wp2_with fail
  refine (within_any _ _ _ _).mono ?_
  rintro e w0 ⟨rfl, rfl⟩
  rw [hin]
  go_wp2_with fail
  refine (HRC.out _).mono ?_
  rintro e w1 ⟨u1, rfl, hr1, hb1⟩
  have HB1 := Lib.hid hb1
  have HL := Lib.hid (HLT.out u1 _ w1 hr1 (Nat.le_refl _))
  clear hb1 hr1
  go_wp2_with fail
  refine HL.out.mono ?_
  rintro e w2 ⟨v2, hi2, rfl, hN2⟩
  have HB2 := Lib.hid (HB1.out.trans (hN2.choose_spec.1.2.1.mono HB1.out.size))
  obtain ⟨A2, c2, rfl, q1, q2, G⟩ := hN2.rdD.open_
  unfold maxLen at q2
  have HG := Lib.hid G
  clear hN2 HL G
  go_wp2_with fail
  go_loopw [7, 26] (fun n i wr => ∃ k : Nat, k ≤ L.length ∧ i = .int .i64 (k : Int) ∧ n = .int .i64 (nt k : Nat) ∧ Hid (Below w2.heap.size w2 wr)) (fun _ i _ => L.length - (intOf i).toNat)
  case atStart => exact ⟨0, Nat.zero_le _, rfl, by rw [HN0.out]; rfl, Below.refl _ _⟩
  case round =>
    obtain ⟨k, hk, rfl, rfl, HB⟩ := hrel
    have hnk := HNL.out k
    by_cases hlt : k < L.length
    · have ht : decide ((k : Int) < (L.length : Int)) = true := by simp only [decide_eq_true_eq]; omega
      obtain ⟨ad, sl, rfl, hbl, hc, hx⟩ := HG.out k hlt
      have hc2 : wr.cell? (ad.add k) = some (slV sl) := (HB.out.cell (by rw [addBlock]; exact hbl)).trans hc
      have HX := Lib.hid ((hx.below HB.out).more HB.out.size)
      have HK := Lib.hid (HFB.out L[k])
      have HSTP := Lib.hid (HNS.out k hlt)
      rw [HK.out] at HSTP
      generalize L[k] = ls at *
      obtain ⟨g3, n3, c3⟩ := sl
      unfold slV at hc2 HX
      have hk0 : (0 : Int) ≤ (k : Int) := by omega
      have hk1 : (k : Int) < (L.length : Int) := by omega
      clear hc hx hbl
      obtain ⟨A3, c3', hv3, r1, r2, _⟩ := id HX.out
      simp only [Value.slice.injEq] at hv3
      obtain ⟨rfl, rfl, rfl⟩ := hv3
      have HSK := Lib.hid (HSN.out _ ls _ wr HX.out (Nat.le_refl _))
      go_wp2_with fail
      refine HSK.out.mono ?_
      rintro e w3 ⟨u3, rfl, hr3, hb3⟩
      have HB3 := Lib.hid (HB.out.trans (hb3.mono HB.out.size))
      have HSD := Lib.hid (SameD_any u3 _ (sz ls) ls w3.heap.size w3 hr3 ((HX.out.below hb3).more hb3.size) (Nat.le_refl _))
      obtain ⟨A4, c4, rfl, _, _, _⟩ := hr3
      clear hb3
      go_wp2_with fail
      refine HSD.out.mono ?_
      rintro e w4 ⟨rfl, hd4⟩
      have HB4 := Lib.hid (HB3.out.trans ((hd4.below w3.heap.size).mono HB3.out.size))
      clear HSD HSK
      cases hq : decide (sz ls = ls)
      · rw [hq] at HSTP
        have HS2 : Hid (nt (k + 1) = nt k) := HSTP.out
        go_wp2_with fail
        go_roundw
        case rel => exact ⟨k + 1, by omega, by go_num, by rw [HS2.out], HB4⟩
        case measure => simp [intOf]; omega
      · rw [hq] at HSTP
        have HS2 : Hid (nt (k + 1) = nt k + 1) := HSTP.out
        go_wp2_with fail
        go_roundw
        case rel => exact ⟨k + 1, by omega, by go_num, by rw [HS2.out]; go_num, HB4⟩
        case measure => simp [intOf]; omega
    · obtain rfl : k = L.length := by omega
      have ht : decide ((L.length : Int) < (L.length : Int)) = false := by simp
      go_wp2_with fail
      go_ret
      exact ⟨rfl, HB2.out.trans (HB.out.mono HB2.out.size)⟩

set_option maxRecDepth 100000 in
set_option maxHeartbeats 4000000 in
theorem CountFixed_yes4 (s : Nat) (hs2 : s = 4) (tn : Nat) (htn : tn ≤ 3) (m : Bool) (w : World) :
    Calls Tryz.prog 9 #[.int .i64 (s : Int), .int .i64 (tn : Int), .bool m] w fun e w' => e = .returned (.int .i64 (fixN s tn m : Nat)) ∧ Below w.heap.size w w' := by
  have hs : s = 2 ∨ s = 4 := by omega
  obtain ⟨hb1, hb2, hb3⟩ := fix_at hs
  have HFN : Hid (fixN s tn m = numTo (fixB s tn m) (allT s) (allT s).length) := rfl
  rw [HFN.out]
  have HLT := Lib.hid (ListT_sq s hs)
  have HRC := Lib.hid (Rectangle_yes s s (by omega) (by omega))
  have HSN := Lib.hid (fun v ls B w h hB => seen_loop (s : Int) tn htn v ls m B w h hB)
  have HFB : Hid (∀ ls, fixB s tn m ls = decide (seenZ s ls tn m = ls)) := fun _ => rfl
  generalize rectZ s s = rz at *
  generalize allT s = L at *
  obtain ⟨p, HP⟩ : ∃ p, Hid (fixB s tn m = p) := ⟨_, rfl⟩
  rw [HP.out] at HFB ⊢
  obtain ⟨sz, HSZ⟩ : ∃ sz, Hid ((fun ls => seenZ (s : Int) ls tn m) = sz) := ⟨_, rfl⟩
  have hsz : ∀ ls, seenZ (s : Int) ls tn m = sz ls := fun ls => by rw [← HSZ.out]
  simp only [hsz, Hid] at HSN HFB
  replace HSN := Lib.hid HSN; replace HFB := Lib.hid HFB
  have HNS := Lib.hid (numTo_step p L)
  have HNL := Lib.hid (numTo_le p L)
  have HN0 : Hid (numTo p L 0 = 0) := rfl
  obtain ⟨nt, HNT⟩ : ∃ nt, Hid (nt = numTo p L) := ⟨_, rfl⟩
  rw [← HNT.out] at HNS HNL HN0 ⊢
  clear HFN HP HSZ hsz HNT hb1 hb2
  have hc2' : ((s : Int) != 2) = true := by rw [hs2]; rfl
  have hc4' : ((s : Int) != 4) = false := by rw [hs2]; rfl
  have hin : inB (tn : Int) 0 3 = true := by rw [inB_iff]; omega
  clear hs2 hs
  go_enter Tryz.func9, Tryz.ntmps9
  go_wp2_with fail
  refine (within_any _ _ _ _).mono ?_
  rintro e w0 ⟨rfl, rfl⟩
  rw [hin]
  go_wp2_with fail
  refine (HRC.out _).mono ?_
  rintro e w1 ⟨u1, rfl, hr1, hb1⟩
  have HB1 := Lib.hid hb1
  have HL := Lib.hid (HLT.out u1 _ w1 hr1 (Nat.le_refl _))
  clear hb1 hr1
  go_wp2_with fail
  refine HL.out.mono ?_
  rintro e w2 ⟨v2, hi2, rfl, hN2⟩
  have HB2 := Lib.hid (HB1.out.trans (hN2.choose_spec.1.2.1.mono HB1.out.size))
  obtain ⟨A2, c2, rfl, q1, q2, G⟩ := hN2.rdD.open_
  unfold maxLen at q2
  have HG := Lib.hid G
  clear hN2 HL G
  go_wp2_with fail
  go_loopw [7, 26] (fun n i wr => ∃ k : Nat, k ≤ L.length ∧ i = .int .i64 (k : Int) ∧ n = .int .i64 (nt k : Nat) ∧ Hid (Below w2.heap.size w2 wr)) (fun _ i _ => L.length - (intOf i).toNat)
  case atStart => exact ⟨0, Nat.zero_le _, rfl, by rw [HN0.out]; rfl, Below.refl _ _⟩
  case round =>
    obtain ⟨k, hk, rfl, rfl, HB⟩ := hrel
    have hnk := HNL.out k
    by_cases hlt : k < L.length
    · have ht : decide ((k : Int) < (L.length : Int)) = true := by simp only [decide_eq_true_eq]; omega
      obtain ⟨ad, sl, rfl, hbl, hc, hx⟩ := HG.out k hlt
      have hc2 : wr.cell? (ad.add k) = some (slV sl) := (HB.out.cell (by rw [addBlock]; exact hbl)).trans hc
      have HX := Lib.hid ((hx.below HB.out).more HB.out.size)
      have HK := Lib.hid (HFB.out L[k])
      have HSTP := Lib.hid (HNS.out k hlt)
      rw [HK.out] at HSTP
      generalize L[k] = ls at *
      obtain ⟨g3, n3, c3⟩ := sl
      unfold slV at hc2 HX
      have hk0 : (0 : Int) ≤ (k : Int) := by omega
      have hk1 : (k : Int) < (L.length : Int) := by omega
      clear hc hx hbl
      obtain ⟨A3, c3', hv3, r1, r2, _⟩ := id HX.out
      simp only [Value.slice.injEq] at hv3
      obtain ⟨rfl, rfl, rfl⟩ := hv3
      have HSK := Lib.hid (HSN.out _ ls _ wr HX.out (Nat.le_refl _))
      go_wp2_with fail
      refine HSK.out.mono ?_
      rintro e w3 ⟨u3, rfl, hr3, hb3⟩
      have HB3 := Lib.hid (HB.out.trans (hb3.mono HB.out.size))
      have HSD := Lib.hid (SameD_any u3 _ (sz ls) ls w3.heap.size w3 hr3 ((HX.out.below hb3).more hb3.size) (Nat.le_refl _))
      obtain ⟨A4, c4, rfl, _, _, _⟩ := hr3
      clear hb3
      go_wp2_with fail
      refine HSD.out.mono ?_
      rintro e w4 ⟨rfl, hd4⟩
      have HB4 := Lib.hid (HB3.out.trans ((hd4.below w3.heap.size).mono HB3.out.size))
      clear HSD HSK
      cases hq : decide (sz ls = ls)
      · rw [hq] at HSTP
        have HS2 : Hid (nt (k + 1) = nt k) := HSTP.out
        go_wp2_with fail
        go_roundw
        case rel => exact ⟨k + 1, by omega, by go_num, by rw [HS2.out], HB4⟩
        case measure => simp [intOf]; omega
      · rw [hq] at HSTP
        have HS2 : Hid (nt (k + 1) = nt k + 1) := HSTP.out
        go_wp2_with fail
        go_roundw
        case rel => exact ⟨k + 1, by omega, by go_num, by rw [HS2.out]; go_num, HB4⟩
        case measure => simp [intOf]; omega
    · obtain rfl : k = L.length := by omega
      have ht : decide ((L.length : Int) < (L.length : Int)) = false := by simp
      go_wp2_with fail
      go_ret
      exact ⟨rfl, HB2.out.trans (HB.out.mono HB2.out.size)⟩
end Go.Proofs.YtehnbalbpfmijaaGreatDoor

namespace Go.Proofs.YtehnbalbpfmijaaGreatDoor
open Go.RowKit
set_option linter.unusedVariables false

def fourB (l : Lk) : List UInt8 := [UInt8.ofNat (48 + l.1.toNat), 44, UInt8.ofNat (48 + l.2.1.toNat), if l.2.2 then 100 else 114]
def textZ (ls : List Lk) : List UInt8 := Lib.join (ls.map fourB) [32]
theorem four_len (l : Lk) : (fourB l).length = 4 := rfl
theorem tail_len (ls : List Lk) : (Lib.joinTail [32] (ls.map fourB)).length = 5 * ls.length := by
  induction ls with
  | nil => rfl
  | cons a r ih =>
    unfold Lib.joinTail at ih ⊢
    simp only [List.map_cons, List.flatten_cons, List.length_append, ih, four_len, List.length_cons, List.length_nil]
    omega
theorem text_len (ls : List Lk) : (textZ ls).length ≤ 5 * ls.length := by
  unfold textZ
  cases ls with
  | nil => simp [Lib.join, List.intercalate]
  | cons a r =>
    rw [List.map_cons, Lib.join_cons, List.length_append, tail_len, four_len, List.length_cons]
    omega
end Go.Proofs.YtehnbalbpfmijaaGreatDoor

namespace Go.Proofs.YtehnbalbpfmijaaGreatDoor
open Go.RowKit
set_option linter.unusedVariables false

/-- The images of a list, the j-th of eight. -/
def imgZ (s : Nat) (ls : List Lk) (j : Nat) : List Lk := seenZ (s : Nat) ls (j % 4) (decide (4 ≤ j))
def getL (L : List (List Lk)) (k : Nat) : List Lk := L.getD k []
/-- The known texts, after j images of one more list. -/
def knTo (f : Nat → List UInt8) (S : List (List UInt8)) : Nat → List (List UInt8)
  | 0 => S
  | j + 1 => f j :: knTo f S j
/-- The number of classes and the known texts after k lists. -/
def stTo (s : Nat) (L : List (List Lk)) : Nat → Nat × List (List UInt8)
  | 0 => (0, [])
  | k + 1 => match stTo s L k with
    | (n, S) => if textZ (getL L k) ∈ S then (n, S) else (n + 1, knTo (fun j => textZ (imgZ s (getL L k) j)) S 8)
def clsN (s : Nat) : Nat := (stTo s (allT s) (allT s).length).1
theorem st_step (s : Nat) (L : List (List Lk)) (k : Nat) : stTo s L (k + 1) = if textZ (getL L k) ∈ (stTo s L k).2 then stTo s L k else ((stTo s L k).1 + 1, knTo (fun j => textZ (imgZ s (getL L k) j)) (stTo s L k).2 8) := by
  rw [stTo]
theorem st_in {s : Nat} {L : List (List Lk)} {k : Nat} (h : decide (textZ (getL L k) ∈ (stTo s L k).2) = true) : stTo s L (k + 1) = stTo s L k := by
  rw [st_step, if_pos (of_decide_eq_true h)]
theorem st_out {s : Nat} {L : List (List Lk)} {k : Nat} (h : decide (textZ (getL L k) ∈ (stTo s L k).2) = false) :
    stTo s L (k + 1) = ((stTo s L k).1 + 1, knTo (fun j => textZ (imgZ s (getL L k) j)) (stTo s L k).2 8) := by
  rw [st_step, if_neg (of_decide_eq_false h)]
theorem st_le (s : Nat) (L : List (List Lk)) : ∀ k, (stTo s L k).1 ≤ k
  | 0 => Nat.le_refl _
  | k + 1 => by
    have h := st_le s L k
    cases hd : decide (textZ (getL L k) ∈ (stTo s L k).2)
    · rw [st_out hd]; exact Nat.succ_le_succ h
    · rw [st_in hd]; exact Nat.le_succ_of_le h
/-- The reference's way: a list is counted if it is no image of an earlier one. -/
def hitB (s : Nat) (a b : List Lk) (t : Nat) : Bool := decide (seenZ (s : Nat) a t false = b) || decide (seenZ (s : Nat) a t true = b)
def fstT (hit : Nat → Bool) (f : Bool) : Nat → Bool
  | 0 => f
  | t + 1 => if hit t then false else fstT hit f t
def fstI (hit : List Lk → List Lk → Nat → Bool) (L : List (List Lk)) (b : List Lk) : Nat → Bool
  | 0 => true
  | i + 1 => fstT (hit (getL L i) b) (fstI hit L b i) 4
def refTo (hit : List Lk → List Lk → Nat → Bool) (L : List (List Lk)) : Nat → Nat
  | 0 => 0
  | k + 1 => if fstI hit L (getL L k) k then refTo hit L k + 1 else refTo hit L k

theorem cls_tab2 : clsN 2 = 1 := by decide +kernel
theorem cls_tab4 : clsN 4 = 9 := by decide +kernel
theorem ref_tab2 : refTo (hitB 2) (allT 2) (allT 2).length = 1 := by decide +kernel
theorem ref_tab4 : refTo (hitB 4) (allT 4) (allT 4).length = 9 := by decide +kernel
theorem ok_tab : ([2, 4].all fun s => (allT s).all fun ls => (List.range 4).all fun t => [false, true].all fun m => (seenZ (s : Nat) ls t m).all domL && decide ((seenZ (s : Nat) ls t m).length ≤ 8)) = true := by decide +kernel
theorem img_ok {s : Nat} (hs : s = 2 ∨ s = 4) {ls : List Lk} (h : ls ∈ allT s) {t : Nat} (ht : t ≤ 3) (m : Bool) : (seenZ (s : Nat) ls t m).all domL = true ∧ (seenZ (s : Nat) ls t m).length ≤ 8 := by
  have h1 := List.all_eq_true.1 (List.all_eq_true.1 (List.all_eq_true.1 (List.all_eq_true.1 ok_tab s (by rcases hs with rfl | rfl <;> simp)) ls h) t (by simp; omega)) m (by cases m <;> simp)
  simp only [Bool.and_eq_true, decide_eq_true_eq] at h1
  exact h1
end Go.Proofs.YtehnbalbpfmijaaGreatDoor

namespace Go.Proofs.YtehnbalbpfmijaaGreatDoor
open Go.RowKit
set_option linter.unusedVariables false

def elStr : El ByteArray := ⟨9, 83, 1, 16, .string ⟨#[]⟩, fun b => [.string b]⟩
theorem okStr : elStr.Ok Tryz.prog := ⟨Tryz.underlying83, by kernel_rfl, rfl, by decide, by decide, fun _ => rfl, fun x u hu => by simp [elStr] at hu; subst hu; rfl⟩

theorem plainElem_bool_inv {H : Type} {P : Program} {e : TypeId} (he : P.underlying e = some .bool) {v : Value} {z : DataW H × List MemPlace} (h : plainElem P e v = some z) : ∃ x, v = .bool x ∧ z = (.lit (.bool x), []) := by
  unfold plainElem at h
  rw [he] at h
  cases v <;> simp at h
  subst h
  exact ⟨_, rfl, rfl⟩

/-- Block b is a map of at most n entries; the keys on S hold true, all others read false. -/
def Knows (P : Program) (k e : TypeId) (w : World) (b n : Nat) (S : List (List UInt8)) : Prop :=
  ∃ D : DataW Unit, w.ownsMap P k (plainElem P e) b n D ∧ Maps.IsMap D ∧ ∀ l : List UInt8, D.atKey (.string l) (.lit (.bool false)) = .lit (.bool (decide (l ∈ S)))
section
variable {P : Program} {k e : TypeId} {w : World} {b n : Nat} {S : List (List UInt8)}
theorem Knows.made (w : World) : Knows P k e (w.alloc (.map #[] 0)) w.heap.size 0 [] :=
  ⟨.map [], World.ownsMap_made _ _ _ _, ⟨[], rfl⟩, fun l => by simp [DataW.atKey]⟩
theorem Knows.lt (h : Knows P k e w b n S) : b < w.heap.size := by obtain ⟨D, h1, _⟩ := h; exact h1.lt
theorem Knows.mono (h : Knows P k e w b n S) {n' : Nat} (hn : n ≤ n') : Knows P k e w b n' S := by obtain ⟨D, h1, h2⟩ := h; exact ⟨D, h1.mono hn, h2⟩
theorem Knows.blk {w' : World} (h : Knows P k e w b n S) (hb : w'.heap[b]? = w.heap[b]?) : Knows P k e w' b n S := by
  obtain ⟨D, ⟨es, clock, h1, h3⟩, h2⟩ := h
  exact ⟨D, ⟨es, clock, hb.trans h1, h3⟩, h2⟩
theorem Knows.below {w' : World} {B : Nat} (h : Knows P k e w b n S) (hb : Below B w w') (hB : b < B) : Knows P k e w' b n S := h.blk (hb.block b hB)
theorem Knows.look {t : TypeId} (h : Knows P k e w b n S) (hk : P.underlying k = some .string) (ht : P.underlying t = some (.map k e)) (he : P.underlying e = some .bool) (hz : (zeroValue e).run P w = .ok (.bool false) w) (s : ByteArray) (hs : s.size ≤ maxLen) :
    (Instr.lookup t (.map (some b)) (.string s) false).run P w = .ok (.bool (decide (s.data.toList ∈ S))) w := by
  obtain ⟨D, h1, _, h2⟩ := h
  obtain ⟨v, ps, hrun, hv⟩ := h1.lookup (Maps.string_keyed hk) ht hz (plainElem_bool he false) (WideMaps.keyOf_string_mk hk hs)
  obtain ⟨c, rfl, hc⟩ := plainElem_bool_inv he hv
  rw [h2] at hc
  simp only [Prod.mk.injEq, DataW.lit.injEq, Lit.bool.injEq] at hc
  rw [hc.1]; exact hrun
theorem Knows.put {t : TypeId} (h : Knows P k e w b n S) (hk : P.underlying k = some .string) (ht : P.underlying t = some (.map k e)) (he : P.underlying e = some .bool) (hn : n < maxLen) (s : ByteArray) (hs : s.size ≤ maxLen) :
    ∃ w', (Instr.mapUpdate t (.map (some b)) (.string s) (.bool true)).run P w = .ok () w' ∧ Knows P k e w' b (n + 1) (s.data.toList :: S) ∧ w.grownBy w' (some b) := by
  obtain ⟨D, h1, hm, h2⟩ := h
  obtain ⟨w', hrun, r1, r2⟩ := h1.update (Maps.string_keyed hk) ht hn (WideMaps.keyOf_string_mk hk hs) (plainElem_bool he true)
  refine ⟨w', hrun, ⟨_, r1, hm.put _ _, fun l => ?_⟩, r2⟩
  by_cases hl : l = s.data.toList
  · subst hl
    rw [Maps.atKey_put_same hm (by trivial)]
    simp
  · rw [Maps.atKey_put_other (fun e => hl (by injection e)), h2 l]
    simp [hl]
theorem wpList_look {ops : Array Oper} {rest : List Oper} {o : Oper} {a : Act} {Q : Exit → Act → World → Prop} (hg : o.guard = none) (m x : Operand) (t : TypeId) (hop : o.op = Op.lookup t m x false)
    (hk : P.underlying k = some .string) (ht : P.underlying t = some (.map k e)) (he : P.underlying e = some .bool) (hz : (zeroValue e).run P w = .ok (.bool false) w) (hm : a.eval m = .map (some b)) (h : Knows P k e w b n S) (s : ByteArray) (hx : a.eval x = .string s) (hs : s.size ≤ maxLen)
    (c : Bool) (hc : decide (s.data.toList ∈ S) = c) (hK : wpList P ops Q rest (a.put o.dst (.bool c)) w) : wpList P ops Q (o :: rest) a w := by
  subst hc
  refine wpList_plain hg fun K' hK' => ?_
  have hrun := h.look hk ht he hz s hs
  unfold Oper.wp
  simp [execOp, hop, hm, hx, hrun, Result.andThen]
  exact hK' _ _ hK
theorem wpList_putM {ops : Array Oper} {rest : List Oper} {o : Oper} {a : Act} {Q : Exit → Act → World → Prop} (hg : o.guard = none) (m x v : Operand) (t : TypeId) (hop : o.op = Op.mapUpdate t m x v)
    (hk : P.underlying k = some .string) (ht : P.underlying t = some (.map k e)) (he : P.underlying e = some .bool) (hm : a.eval m = .map (some b)) (h : Knows P k e w b n S) (hn : n < maxLen) (s : ByteArray) (hx : a.eval x = .string s) (hv : a.eval v = .bool true) (hs : s.size ≤ maxLen)
    (hK : ∀ w', Hid (Knows P k e w' b (n + 1) (s.data.toList :: S)) → Hid (w.grownBy w' (some b)) → wpList P ops Q rest (a.put o.dst undef) w') : wpList P ops Q (o :: rest) a w := by
  refine wpList_plain hg fun K' hK' => ?_
  obtain ⟨w', hrun, r1, r2⟩ := h.put hk ht he hn s hs
  unfold Oper.wp
  simp [execOp, hop, hm, hx, hv, hrun, Result.andThen]
  exact hK' _ _ (hK w' r1 r2)
theorem Knows.none (h : Knows P k e w b n S) {p : Addr} (hp : p.block = b) : w.cell? p = none := by
  obtain ⟨D, ⟨es, clock, h1, _⟩, _⟩ := h
  subst hp
  unfold World.cell?
  rw [h1]
/-- A store into the map leaves all cells as they were. -/
theorem Knows.cells {w' : World} {n' : Nat} {S' : List (List UInt8)} (h : Knows P k e w b n S) (h' : Knows P k e w' b n' S') (hg : w.grownBy w' (some b)) (p : Addr) (hp : p.block < w.heap.size) : w'.cell? p = w.cell? p := by
  by_cases hb : p.block = b
  · rw [h.none hb, h'.none hb]
  · exact World.cell?_of_block (hg.block _ hp fun e => hb (Option.some.inj e))
end
end Go.Proofs.YtehnbalbpfmijaaGreatDoor

namespace Go.Proofs
open Go.Shelf
def Tryz.lays171_ren : Go.Shelf.Ren := ⟨fun | 171 => 89 | 243 => 94 | 246 => 97 | 283 => 98 | 284 => 99 | 285 => 100 | 286 => 101 | 129 => 103 | 317 => 102 | 318 => 104 | 319 => 105 | 320 => 106 | 337 => 107 | 338 => 108 | n => n, fun | 3 => 3 | 9 => 9 | 2 => 2 | 4 => 4 | 171 => 123 | 0 => 0 | 53 => 67 | 37 => 22 | 5 => 5 | 173 => 126 | 212 => 129 | 51 => 130 | 20 => 20 | 213 => 131 | 46 => 109 | 232 => 135 | 233 => 136 | n => n, fun | 17 => 1 | 18 => 2 | 19 => 3 | n => n⟩
theorem Tryz.lays171 : Go.Proofs.Lays.n171 Tryz.prog Tryz.lays171_ren := {
  mixed := by kernel_rfl
  f129 := Tryz.func103.trans (congrArg some (by kernel_rfl))
  f171 := Tryz.func89.trans (congrArg some (by kernel_rfl))
  f243 := Tryz.func94.trans (congrArg some (by kernel_rfl))
  f246 := Tryz.func97.trans (congrArg some (by kernel_rfl))
  f283 := Tryz.func98.trans (congrArg some (by kernel_rfl))
  f284 := Tryz.func99.trans (congrArg some (by kernel_rfl))
  f285 := Tryz.func100.trans (congrArg some (by kernel_rfl))
  f286 := Tryz.func101.trans (congrArg some (by kernel_rfl))
  f317 := Tryz.func102.trans (congrArg some (by kernel_rfl))
  f318 := Tryz.func104.trans (congrArg some (by kernel_rfl))
  f319 := Tryz.func105.trans (congrArg some (by kernel_rfl))
  f320 := Tryz.func106.trans (congrArg some (by kernel_rfl))
  f337 := Tryz.func107.trans (congrArg some (by kernel_rfl))
  f338 := Tryz.func108.trans (congrArg some (by kernel_rfl))
  t0 := Tryz.underlying0
  a0 := Tryz.isAgg0
  z0 := Tryz.sizeOf0
  v0 := Tryz.zeroValue0
  t2 := Tryz.underlying2
  a2 := Tryz.isAgg2
  z2 := Tryz.sizeOf2
  v2 := Tryz.zeroValue2
  t3 := Tryz.underlying3
  a3 := Tryz.isAgg3
  z3 := Tryz.sizeOf3
  v3 := Tryz.zeroValue3
  t4 := Tryz.underlying4
  a4 := Tryz.isAgg4
  z4 := Tryz.sizeOf4
  v4 := Tryz.zeroValue4
  t5 := Tryz.underlying5
  a5 := Tryz.isAgg5
  z5 := Tryz.sizeOf5
  v5 := Tryz.zeroValue5
  t9 := Tryz.underlying9
  a9 := Tryz.isAgg9
  z9 := Tryz.sizeOf9
  v9 := Tryz.zeroValue9
  t20 := Tryz.underlying20
  a20 := Tryz.isAgg20
  z20 := Tryz.sizeOf20
  v20 := Tryz.zeroValue20
  t37 := Tryz.underlying22
  a37 := Tryz.isAgg22
  z37 := Tryz.sizeOf22
  v37 := Tryz.zeroValue22
  t46 := Tryz.underlying109
  a46 := Tryz.isAgg109
  z46 := Tryz.sizeOf109
  v46 := Tryz.zeroValue109
  t51 := Tryz.underlying130
  a51 := Tryz.isAgg130
  z51 := Tryz.sizeOf130
  v51 := Tryz.zeroValue130
  t53 := Tryz.underlying67
  a53 := Tryz.isAgg67
  z53 := Tryz.sizeOf67
  v53 := Tryz.zeroValue67
  t171 := Tryz.underlying123
  a171 := Tryz.isAgg123
  z171 := Tryz.sizeOf123
  v171 := Tryz.zeroValue123
  t173 := Tryz.underlying126
  a173 := Tryz.isAgg126
  z173 := Tryz.sizeOf126
  v173 := Tryz.zeroValue126
  t212 := Tryz.underlying129
  a212 := Tryz.isAgg129
  z212 := Tryz.sizeOf129
  v212 := Tryz.zeroValue129
  t213 := Tryz.underlying131
  a213 := Tryz.isAgg131
  z213 := Tryz.sizeOf131
  t232 := Tryz.underlying135
  a232 := Tryz.isAgg135
  z232 := Tryz.sizeOf135
  v232 := Tryz.zeroValue135
  t233 := Tryz.underlying136
  a233 := Tryz.isAgg136
  z233 := Tryz.sizeOf136
  v233 := Tryz.zeroValue136
  g17 := by kernel_rfl
  g18 := by kernel_rfl
  g19 := by kernel_rfl }
def Tryz.lays156_ren : Go.Shelf.Ren := ⟨fun | 156 => 55 | 165 => 75 | 166 => 76 | 169 => 77 | 240 => 90 | 241 => 91 | 276 => 95 | 277 => 96 | n => n, fun | 31 => 83 | 9 => 9 | 3 => 3 | 4 => 4 | 0 => 0 | 20 => 20 | 72 => 102 | 76 => 106 | 70 => 100 | 37 => 22 | 75 => 105 | 127 => 117 | 164 => 119 | 5 => 5 | 80 => 108 | n => n, fun | n => n⟩
theorem Tryz.lays156 : Go.Proofs.Lays.n156 Tryz.prog Tryz.lays156_ren := {
  mixed := by kernel_rfl
  f156 := Tryz.func55.trans (congrArg some (by kernel_rfl))
  f165 := Tryz.func75.trans (congrArg some (by kernel_rfl))
  f166 := Tryz.func76.trans (congrArg some (by kernel_rfl))
  f169 := Tryz.func77.trans (congrArg some (by kernel_rfl))
  f240 := Tryz.func90.trans (congrArg some (by kernel_rfl))
  f241 := Tryz.func91.trans (congrArg some (by kernel_rfl))
  f276 := Tryz.func95.trans (congrArg some (by kernel_rfl))
  f277 := Tryz.func96.trans (congrArg some (by kernel_rfl))
  t0 := Tryz.underlying0
  a0 := Tryz.isAgg0
  z0 := Tryz.sizeOf0
  v0 := Tryz.zeroValue0
  t3 := Tryz.underlying3
  a3 := Tryz.isAgg3
  z3 := Tryz.sizeOf3
  v3 := Tryz.zeroValue3
  t4 := Tryz.underlying4
  a4 := Tryz.isAgg4
  z4 := Tryz.sizeOf4
  v4 := Tryz.zeroValue4
  t9 := Tryz.underlying9
  a9 := Tryz.isAgg9
  z9 := Tryz.sizeOf9
  v9 := Tryz.zeroValue9
  t20 := Tryz.underlying20
  a20 := Tryz.isAgg20
  z20 := Tryz.sizeOf20
  v20 := Tryz.zeroValue20
  t31 := Tryz.underlying83
  a31 := Tryz.isAgg83
  z31 := Tryz.sizeOf83
  v31 := Tryz.zeroValue83
  t37 := Tryz.underlying22
  a37 := Tryz.isAgg22
  z37 := Tryz.sizeOf22
  v37 := Tryz.zeroValue22
  t70 := Tryz.underlying100
  a70 := Tryz.isAgg100
  z70 := Tryz.sizeOf100
  v70 := Tryz.zeroValue100
  t72 := Tryz.underlying102
  a72 := Tryz.isAgg102
  z72 := Tryz.sizeOf102
  v72 := Tryz.zeroValue102
  t75 := Tryz.underlying105
  a75 := Tryz.isAgg105
  z75 := Tryz.sizeOf105
  v75 := Tryz.zeroValue105
  t76 := Tryz.underlying106
  a76 := Tryz.isAgg106
  z76 := Tryz.sizeOf106
  v76 := Tryz.zeroValue106
  t127 := Tryz.underlying117
  a127 := Tryz.isAgg117
  z127 := Tryz.sizeOf117
  v127 := Tryz.zeroValue117
  t164 := Tryz.underlying119
  a164 := Tryz.isAgg119
  z164 := Tryz.sizeOf119
  v164 := Tryz.zeroValue119 }
theorem Tryz.Builder_Extra_156 : Builder.Extra Tryz.prog Tryz.lays156_ren := {
  sizeBuilder := by kernel_rfl
  liesBuilder := by kernel_rfl
  t5 := Tryz.underlying5
  a5 := Tryz.isAgg5
  z5 := Tryz.sizeOf5
  v5 := Tryz.zeroValue5
  infoByte := by kernel_rfl
  cellsByte := by kernel_rfl
  sizeByte := by kernel_rfl
  neB5 := by decide }
end Go.Proofs
