/- The step of the closure of the program's each. -/
import Derived.Test.YtiecphhenpapoaaEach
namespace Go.Proofs.Ytiecphhenpapoaa
open Go.RowKit
set_option linter.unusedVariables false

theorem cell_of_bools {w : World} {p : Nat} {t : TypeId} (h : w.heap[p]? = some (.cells #[.bool false, .bool true] t (0, 0))) (j : Nat) (hj : j < 2) : w.cell? ⟨p, j, none⟩ = some (.bool (decide (j = 1))) := by
  rw [blk_cell h]
  rcases (show j = 0 ∨ j = 1 by omega) with rfl | rfl <;> rfl
/-- What the last region reads. -/
abbrev EachS (w : World) (n p : Nat) (x y : Int) (d : Bool) : Prop := w.cell? ⟨n + 3, 0, none⟩ = some (reV n) ∧ w.cell? ⟨p, 0, none⟩ = some (.int .i64 x) ∧ w.cell? ⟨p, 1, none⟩ = some (.int .i64 y) ∧ w.cell? ⟨p, 2, none⟩ = some (.bool d)
theorem EachS.of {w : World} {n p : Nat} {x y : Int} {d : Bool} {t t' : TypeId} (h : w.heap[n + 3]? = some (.cells #[reV n] t (0, 0))) (k : w.heap[p]? = some (.cells #[.int .i64 x, .int .i64 y, .bool d] t' (0, 0))) : EachS w n p x y d :=
  ⟨cell_of_one h, by rw [blk_cell k]; rfl, by rw [blk_cell k]; rfl, by rw [blk_cell k]; rfl⟩
set_option maxRecDepth 100000 in
set_option maxHeartbeats 8000000 in
theorem each_step (w0 : World) (n0 n a b d s : Nat) (hd : List Lk) (hs : s ≠ 0) (hl : s < 18446744073709551616) (hh : hd.length ≤ 100)
    (IH : ∀ down, fitB s (dOf (fstN s) down) = true → EachAt w0 n0 n a b d (minN s (dM (dOf (fstN s) down))) (hd ++ [dOf (fstN s) down])) : EachAt w0 n0 n a b (d + 1) s hd := by
  intro wr x vw h
  have hsz : ((s : Int) == 0) = false := by rw [beq_eq_false_iff_ne]; omega
  obtain ⟨xs, HXE⟩ : ∃ xs : Nat → Int, Hid (xs = fun j => if j = 0 then x else if j = 1 then (if fitB s (dOf (fstN s) false) then cntE (iffB a b) d (minN s (dM (dOf (fstN s) false))) (hd ++ [dOf (fstN s) false]) x else x) else cntE (iffB a b) (d + 1) s hd x) := ⟨_, rfl⟩
  have HX0 : Hid (xs 0 = x) := by rw [HXE.out]; rfl
  have HX2 : Hid (xs 2 = cntE (iffB a b) (d + 1) s hd x) := by rw [HXE.out]; rfl
  have HXS : Hid (∀ j, j < 2 → xs (j + 1) = if fitB s (dOf (fstN s) (decide (j = 1))) then cntE (iffB a b) d (minN s (dM (dOf (fstN s) (decide (j = 1))))) (hd ++ [dOf (fstN s) (decide (j = 1))]) (xs j) else xs j) := by
    intro j hj
    rw [HXE.out]
    rcases (show j = 0 ∨ j = 1 by omega) with rfl | rfl
    · rfl
    · simp only [cntE, if_neg hs]; rfl
  rw [← HX2.out]
  have HFC := Lib.hid (firstCell_any s hs hl)
  have HIH := Lib.hid IH
  have hf64 := (fstN_spec hs hl).2.1
  clear HXE HX2 IH hs
  generalize fstN s = f at *
  have H := Lib.hid h
  clear h
  go_enter Try.func139, Try.ntmps139
  go_wp2_with fail
  refine (HFC.out _).mono ?_
  rintro e w1 ⟨rfl, hb1⟩
  obtain ⟨cx, HCX⟩ : ∃ z : Int, Hid (((f % 8 : Nat) : Int) = z) := ⟨_, rfl⟩
  obtain ⟨cy, HCY⟩ : ∃ z : Int, Hid (((f / 8 : Nat) : Int) = z) := ⟨_, rfl⟩
  have HDO : Hid (∀ dn, dOf f dn = (cx, cy, dn)) := fun dn => by unfold dOf; rw [HCX.out, HCY.out]
  rw [HCX.out, HCY.out]
  have H1 := Lib.hid (H.out.below hb1)
  have HE1 : Hid (EF n0 n wr w1 vw vw) := EF.below hb1
  clear hb1 H HCX HCY
  go_wp2_with fail
  obtain ⟨Ws, hWs, kc, kb, hbs⟩ := two_alloc w1 (.cells #[.int .i64 cx, .int .i64 cy] 56) (.cells #[.bool false, .bool true] 4)
  rw [← hWs]
  have HC0 := Lib.hid (H1.out.below hbs)
  have HE0 := Lib.hid (HE1.out.trans (EF.below hbs))
  have HLC := Lib.hid (show n + 3 < w1.heap.size ∧ n0 + 2 < n ∧ ∀ g, vw.ownBlock = some g → g < w1.heap.size from ⟨lt_of_block H1.out.cr, H1.out.l0, fun g hg => (H1.out.aw.1.lt g hg).2⟩)
  have HKC := Lib.hid kc; have HKB := Lib.hid kb
  have HSW : Hid (w1.heap.size + 1 < Ws.heap.size) := lt_of_block kb
  clear hWs kc kb hbs H1 HE1
  go_loopw [18] (fun i wr2 => ∃ (j : Nat) (vwj : Value), j ≤ 2 ∧ i = .int .i64 j ∧ Hid (CF w0 wr2 n0 n a b (xs j) vwj hd) ∧ Hid (EF n0 n Ws wr2 vw vwj)) (fun i _ => 2 - (intOf i).toNat)
  case atStart => exact ⟨0, vw, by omega, rfl, (by rw [HX0.out]; exact HC0), ⟨fun k _ _ _ _ => rfl, fun g hg => .inl hg, Nat.le_refl _⟩⟩
  case round =>
    obtain ⟨j, vwj, hj, rfl, HC, HEF⟩ := hrel
    by_cases hj2 : j < 2
    · have ht : decide ((j : Int) < 2) = true := by simp only [decide_eq_true_eq]; omega
      have hj0 : (0 : Int) ≤ (j : Int) := by omega
      have hj1 : (j : Int) < 2 := by omega
      have HXJ := Lib.hid (HXS.out j hj2)
      have hlc := HLC.out
      have hsw := HSW.out
      have hkc : wr.heap[w1.heap.size]? = some (.cells #[.int .i64 cx, .int .i64 cy] 56 (0, 0)) := (HEF.out.1 _ (by omega) (by omega) (by omega) (fun e => by have := hlc.2.2 _ e; omega)).trans HKC.out
      have hkb : wr.heap[w1.heap.size + 1]? = some (.cells #[.bool false, .bool true] 4 (0, 0)) := (HEF.out.1 _ (by omega) (by omega) (by omega) (fun e => by have := hlc.2.2 _ e; omega)).trans HKB.out
      have cc0 : wr.cell? ⟨w1.heap.size, 0, none⟩ = some (.int .i64 cx) := by rw [blk_cell hkc]; rfl
      have cc1 : wr.cell? ⟨w1.heap.size, 1, none⟩ = some (.int .i64 cy) := by rw [blk_cell hkc]; rfl
      have cb := cell_of_bools hkb j hj2
      obtain ⟨dn, HDN⟩ : ∃ dn, Hid (decide (j = 1) = dn) := ⟨_, rfl⟩
      rw [HDN.out] at cb HXJ
      rw [HDO.out dn] at HXJ
      have HIJ := Lib.hid (HIH.out dn)
      rw [HDO.out dn] at HIJ
      clear hkc hkb hlc hsw HDN
      go_wp2_with fail
      obtain ⟨W, hW, kd, hbW⟩ := one_alloc wr (.cells #[.int .i64 cx, .int .i64 cy, .bool dn] 58)
      rw [← hW]
      have HCW := Lib.hid (HC.out.below hbW)
      have HLd : Hid (wr.heap.size < W.heap.size) := lt_of_block kd
      have HS0 : Hid (OneT W W.drew wr.heap.size cx cy dn) := (OneT.of kd).drew
      have HBW := Lib.hid hbW
      have HKD := Lib.hid kd
      have HOW := Lib.hid (show n + 3 < wr.heap.size ∧ ∀ g, vwj.ownBlock = some g → g < wr.heap.size from ⟨lt_of_block HC.out.cr, fun g hg => (HC.out.aw.1.lt g hg).2⟩)
      clear hW kd hbW cc0 cc1 cb HC
      cases hdb : domB cx cy dn
      · have HDB := Lib.hid hdb
        have HNF : Hid (fitB s (cx, cy, dn) = false) := by unfold Hid fitB domL; simp [hdb]
        clear hdb
        go_wp2_with fail
        refine wp_region_held_drew (S := fun w' => OneT W w' wr.heap.size cx cy dn) (by kernel_rfl) (by exact HS0.out) (fun hHeld => ?_)
        refine wpAnyH_take (i := 0) (oi := ⟨_, _, _, _, _, _⟩) (v := ?vap3012q1n0) rfl (by kernel_rfl) (by kernel_rfl) (by kernel_rfl) (fun _ _ _ h => h) (Or.inl ⟨by rfl, ?hap3012q1n0⟩) (by assumption) ?_
        case hap3012q1n0 => (intro w hSw; (try dsimp only at hSw); go_simp; try with_reducible rfl)
        try simp only [Act.put, List.setIfInBounds_toArray, List.set_cons_zero, List.set_cons_succ]
        refine wpAnyH_ready (rs := [1]) (by kernel_rfl) (by simp) ?_
        refine AllReadyH.cons (o := ⟨_, _, _, _, _, _⟩) rfl (fun K hK => ?_) AllReadyH.nil
        go_simp
        go_at_call 141
        refine (DominoOk_any cx cy dn _).mono ?_
        rintro e w9 ⟨rfl, hb9⟩
        rw [HDB.out]
        refine hK.out _ _ (by exact OneT.keep hb9 HLd.out (by assumption)) (fun hHeld => ?_)
        clear hK K
        try simp only [Act.put, List.setIfInBounds_toArray, List.set_cons_zero, List.set_cons_succ]
        refine wpAnyH_take (i := 2) (oi := ⟨_, _, _, _, _, _⟩) (v := ?vap3012q2n2) rfl (by kernel_rfl) (by kernel_rfl) (by kernel_rfl) (fun _ _ _ h => h) (Or.inl ⟨by rfl, ?hap3012q2n2⟩) (by assumption) ?_
        case hap3012q2n2 => (intro w hSw; (try dsimp only at hSw); go_simp; try with_reducible rfl)
        try simp only [Act.put, List.setIfInBounds_toArray, List.set_cons_zero, List.set_cons_succ]
        refine wpAnyH_take (i := 3) (oi := ⟨_, _, _, _, _, _⟩) (v := undef) rfl (by kernel_rfl) (by kernel_rfl) (by kernel_rfl) (fun _ _ _ h => h) (Or.inr ⟨by rfl, rfl⟩) (by assumption) ?_
        try simp only [Act.put, List.setIfInBounds_toArray, List.set_cons_zero, List.set_cons_succ]
        refine wpAnyH_take (i := 4) (oi := ⟨_, _, _, _, _, _⟩) (v := undef) rfl (by kernel_rfl) (by kernel_rfl) (by kernel_rfl) (fun _ _ _ h => h) (Or.inr ⟨by rfl, rfl⟩) (by assumption) ?_
        try simp only [Act.put, List.setIfInBounds_toArray, List.set_cons_zero, List.set_cons_succ]
        refine wpAnyH_take (i := 5) (oi := ⟨_, _, _, _, _, _⟩) (v := undef) rfl (by kernel_rfl) (by kernel_rfl) (by kernel_rfl) (fun _ _ _ h => h) (Or.inr ⟨by rfl, rfl⟩) (by assumption) ?_
        try simp only [Act.put, List.setIfInBounds_toArray, List.set_cons_zero, List.set_cons_succ]
        refine wpAnyH_take (i := 6) (oi := ⟨_, _, _, _, _, _⟩) (v := undef) rfl (by kernel_rfl) (by kernel_rfl) (by kernel_rfl) (fun _ _ _ h => h) (Or.inr ⟨by rfl, rfl⟩) (by assumption) ?_
        try simp only [Act.put, List.setIfInBounds_toArray, List.set_cons_zero, List.set_cons_succ]
        refine wpAnyH_take (i := 7) (oi := ⟨_, _, _, _, _, _⟩) (v := undef) rfl (by kernel_rfl) (by kernel_rfl) (by kernel_rfl) (fun _ _ _ h => h) (Or.inr ⟨by rfl, rfl⟩) (by assumption) ?_
        try simp only [Act.put, List.setIfInBounds_toArray, List.set_cons_zero, List.set_cons_succ]
        refine wpAnyH_take (i := 8) (oi := ⟨_, _, _, _, _, _⟩) (v := undef) rfl (by kernel_rfl) (by kernel_rfl) (by kernel_rfl) (fun _ _ _ h => h) (Or.inr ⟨by rfl, rfl⟩) (by assumption) ?_
        try simp only [Act.put, List.setIfInBounds_toArray, List.set_cons_zero, List.set_cons_succ]
        refine wpAnyH_take (i := 9) (oi := ⟨_, _, _, _, _, _⟩) (v := undef) rfl (by kernel_rfl) (by kernel_rfl) (by kernel_rfl) (fun _ _ _ h => h) (Or.inr ⟨by rfl, rfl⟩) (by assumption) ?_
        try simp only [Act.put, List.setIfInBounds_toArray, List.set_cons_zero, List.set_cons_succ]
        refine wpAnyH_take (i := 10) (oi := ⟨_, _, _, _, _, _⟩) (v := ?vap3012q3n10) rfl (by kernel_rfl) (by kernel_rfl) (by kernel_rfl) (fun _ _ _ h => h) (Or.inl ⟨by rfl, ?hap3012q3n10⟩) (by assumption) ?_
        case hap3012q3n10 => (intro w hSw; (try dsimp only at hSw); go_simp; try with_reducible rfl)
        try simp only [Act.put, List.setIfInBounds_toArray, List.set_cons_zero, List.set_cons_succ]
        refine wpAnyH_done (by kernel_rfl) ?_ _
        have HEN : Hid (xs (j + 1) = xs j) := by unfold Hid; rw [HXJ.out]; simp [HNF.out]
        have hS := (show OneT W _ wr.heap.size cx cy dn from by assumption)
        have HCE := Lib.hid (HCW.out.below hS.2.2.2.2)
        have HEE := Lib.hid (HEF.out.trans ((EF.below HBW.out).trans (EF.below hS.2.2.2.2)))
        clear hS
        go_wp2_with fail
        go_roundw
        case rel => exact ⟨j + 1, _, by omega, by go_num, (by rw [HEN.out]; exact HCE), HEE⟩
        case measure => simp [intOf]; omega
      · have HDB := Lib.hid hdb
        have HSX := Lib.hid (fun W => dset_Z cx cy dn W hdb)
        have HML := Lib.hid (dM_lt (l := (cx, cy, dn)) hdb)
        have HFB : Hid (fitB s (cx, cy, dn) = (s &&& dM (cx, cy, dn) == dM (cx, cy, dn))) := by unfold Hid fitB domL; simp [hdb]
        have HAN := Lib.hid (u64_and_nat s (dM (cx, cy, dn)) hl HML.out)
        have HNN := Lib.hid (u64_andNot_nat s (dM (cx, cy, dn)) hl HML.out)
        clear hdb
        obtain ⟨m, HM⟩ : ∃ m, Hid (dM (cx, cy, dn) = m) := ⟨_, rfl⟩
        rw [HM.out] at HSX HML HFB HAN HNN HXJ HIJ
        have HMN : Hid (bits .andNot .u64 (s : Int) (m : Int) = ((minN s m : Nat) : Int)) := HNN.out
        clear HNN
        cases hft : (s &&& m == m)
        · have hq : (bits .and .u64 (s : Int) (m : Int) == (m : Int)) = false := by rw [HAN.out, beq_eq_false_iff_ne]; rw [beq_eq_false_iff_ne] at hft; omega
          have HNF : Hid (fitB s (cx, cy, dn) = false) := by rw [HFB.out]; exact hft
          clear hft
          go_wp2_with fail
          refine wp_region_held_drew (S := fun w' => OneT W w' wr.heap.size cx cy dn) (by kernel_rfl) (by exact HS0.out) (fun hHeld => ?_)
          refine wpAnyH_take (i := 0) (oi := ⟨_, _, _, _, _, _⟩) (v := ?vap3013q1n0) rfl (by kernel_rfl) (by kernel_rfl) (by kernel_rfl) (fun _ _ _ h => h) (Or.inl ⟨by rfl, ?hap3013q1n0⟩) (by assumption) ?_
          case hap3013q1n0 => (intro w hSw; (try dsimp only at hSw); go_simp; try with_reducible rfl)
          try simp only [Act.put, List.setIfInBounds_toArray, List.set_cons_zero, List.set_cons_succ]
          refine wpAnyH_ready (rs := [1]) (by kernel_rfl) (by simp) ?_
          refine AllReadyH.cons (o := ⟨_, _, _, _, _, _⟩) rfl (fun K hK => ?_) AllReadyH.nil
          go_simp
          go_at_call 141
          refine (DominoOk_any cx cy dn _).mono ?_
          rintro e w9 ⟨rfl, hb9⟩
          rw [HDB.out]
          refine hK.out _ _ (by exact OneT.keep hb9 HLd.out (by assumption)) (fun hHeld => ?_)
          clear hK K
          try simp only [Act.put, List.setIfInBounds_toArray, List.set_cons_zero, List.set_cons_succ]
          refine wpAnyH_take (i := 2) (oi := ⟨_, _, _, _, _, _⟩) (v := ?vap3013q2n2) rfl (by kernel_rfl) (by kernel_rfl) (by kernel_rfl) (fun _ _ _ h => h) (Or.inl ⟨by rfl, ?hap3013q2n2⟩) (by assumption) ?_
          case hap3013q2n2 => (intro w hSw; (try dsimp only at hSw); go_simp; try with_reducible rfl)
          try simp only [Act.put, List.setIfInBounds_toArray, List.set_cons_zero, List.set_cons_succ]
          refine wpAnyH_take (i := 3) (oi := ⟨_, _, _, _, _, _⟩) (v := ?vap3013q3n3) rfl (by kernel_rfl) (by kernel_rfl) (by kernel_rfl) (fun _ _ _ h => h) (Or.inl ⟨by rfl, ?hap3013q3n3⟩) (by assumption) ?_
          case hap3013q3n3 => (intro w hSw; (try dsimp only at hSw); go_simp; try with_reducible rfl)
          try simp only [Act.put, List.setIfInBounds_toArray, List.set_cons_zero, List.set_cons_succ]
          refine wpAnyH_take (i := 4) (oi := ⟨_, _, _, _, _, _⟩) (v := ?vap3013q4n4) rfl (by kernel_rfl) (by kernel_rfl) (by kernel_rfl) (fun _ _ _ h => h) (Or.inl ⟨by rfl, ?hap3013q4n4⟩) (by assumption) ?_
          case hap3013q4n4 => (intro w hSw; (try dsimp only at hSw); go_simp; try with_reducible rfl)
          try simp only [Act.put, List.setIfInBounds_toArray, List.set_cons_zero, List.set_cons_succ]
          refine wpAnyH_take (i := 7) (oi := ⟨_, _, _, _, _, _⟩) (v := ?vap3013q5n7) rfl (by kernel_rfl) (by kernel_rfl) (by kernel_rfl) (fun _ _ _ h => h) (Or.inl ⟨by rfl, ?hap3013q5n7⟩) (by assumption) ?_
          case hap3013q5n7 => (intro w hSw; (try dsimp only at hSw); go_simp; try with_reducible rfl)
          try simp only [Act.put, List.setIfInBounds_toArray, List.set_cons_zero, List.set_cons_succ]
          refine wpAnyH_ready (rs := [5]) (by kernel_rfl) (by simp) ?_
          refine AllReadyH.cons (o := ⟨_, _, _, _, _, _⟩) rfl (fun K hK => ?_) AllReadyH.nil
          go_simp
          go_at_call 142
          refine (HSX.out _).mono ?_
          rintro e w9 ⟨rfl, hb9⟩
          refine hK.out _ _ (by exact OneT.keep hb9 HLd.out (by assumption)) (fun hHeld => ?_)
          clear hK K
          try simp only [Act.put, List.setIfInBounds_toArray, List.set_cons_zero, List.set_cons_succ]
          refine wpAnyH_take (i := 6) (oi := ⟨_, _, _, _, _, _⟩) (v := ?vap3013q6n6) rfl (by kernel_rfl) (by kernel_rfl) (by kernel_rfl) (fun _ _ _ h => h) (Or.inl ⟨by rfl, ?hap3013q6n6⟩) (by assumption) ?_
          case hap3013q6n6 => (intro w hSw; (try dsimp only at hSw); go_simp; try with_reducible rfl)
          try simp only [Act.put, List.setIfInBounds_toArray, List.set_cons_zero, List.set_cons_succ]
          refine wpAnyH_ready (rs := [8]) (by kernel_rfl) (by simp) ?_
          refine AllReadyH.cons (o := ⟨_, _, _, _, _, _⟩) rfl (fun K hK => ?_) AllReadyH.nil
          go_simp
          go_at_call 142
          refine (HSX.out _).mono ?_
          rintro e w9 ⟨rfl, hb9⟩
          refine hK.out _ _ (by exact OneT.keep hb9 HLd.out (by assumption)) (fun hHeld => ?_)
          clear hK K
          try simp only [Act.put, List.setIfInBounds_toArray, List.set_cons_zero, List.set_cons_succ]
          refine wpAnyH_take (i := 9) (oi := ⟨_, _, _, _, _, _⟩) (v := ?vap3013q7n9) rfl (by kernel_rfl) (by kernel_rfl) (by kernel_rfl) (fun _ _ _ h => h) (Or.inl ⟨by rfl, ?hap3013q7n9⟩) (by assumption) ?_
          case hap3013q7n9 => (intro w hSw; (try dsimp only at hSw); go_simp; try with_reducible rfl)
          try simp only [Act.put, List.setIfInBounds_toArray, List.set_cons_zero, List.set_cons_succ]
          refine wpAnyH_take (i := 10) (oi := ⟨_, _, _, _, _, _⟩) (v := ?vap3013q8n10) rfl (by kernel_rfl) (by kernel_rfl) (by kernel_rfl) (fun _ _ _ h => h) (Or.inl ⟨by rfl, ?hap3013q8n10⟩) (by assumption) ?_
          case hap3013q8n10 => (intro w hSw; (try dsimp only at hSw); go_simp; try with_reducible rfl)
          try simp only [Act.put, List.setIfInBounds_toArray, List.set_cons_zero, List.set_cons_succ]
          refine wpAnyH_done (by kernel_rfl) ?_ _
          have HEN : Hid (xs (j + 1) = xs j) := by unfold Hid; rw [HXJ.out]; simp [HNF.out]
          have hS := (show OneT W _ wr.heap.size cx cy dn from by assumption)
          have HCE := Lib.hid (HCW.out.below hS.2.2.2.2)
          have HEE := Lib.hid (HEF.out.trans ((EF.below HBW.out).trans (EF.below hS.2.2.2.2)))
          clear hS
          go_wp2_with fail
          go_roundw
          case rel => exact ⟨j + 1, _, by omega, by go_num, (by rw [HEN.out]; exact HCE), HEE⟩
          case measure => simp [intOf]; omega
        · have hq : (bits .and .u64 (s : Int) (m : Int) == (m : Int)) = true := by rw [HAN.out, beq_iff_eq]; rw [beq_iff_eq] at hft; omega
          have HNF : Hid (fitB s (cx, cy, dn) = true) := by rw [HFB.out]; exact hft
          clear hft
          go_wp2_with fail
          refine wp_region_held_drew (S := fun w' => OneT W w' wr.heap.size cx cy dn) (by kernel_rfl) (by exact HS0.out) (fun hHeld => ?_)
          refine wpAnyH_take (i := 0) (oi := ⟨_, _, _, _, _, _⟩) (v := ?vap3015q1n0) rfl (by kernel_rfl) (by kernel_rfl) (by kernel_rfl) (fun _ _ _ h => h) (Or.inl ⟨by rfl, ?hap3015q1n0⟩) (by assumption) ?_
          case hap3015q1n0 => (intro w hSw; (try dsimp only at hSw); go_simp; try with_reducible rfl)
          try simp only [Act.put, List.setIfInBounds_toArray, List.set_cons_zero, List.set_cons_succ]
          refine wpAnyH_ready (rs := [1]) (by kernel_rfl) (by simp) ?_
          refine AllReadyH.cons (o := ⟨_, _, _, _, _, _⟩) rfl (fun K hK => ?_) AllReadyH.nil
          go_simp
          go_at_call 141
          refine (DominoOk_any cx cy dn _).mono ?_
          rintro e w9 ⟨rfl, hb9⟩
          rw [HDB.out]
          refine hK.out _ _ (by exact OneT.keep hb9 HLd.out (by assumption)) (fun hHeld => ?_)
          clear hK K
          try simp only [Act.put, List.setIfInBounds_toArray, List.set_cons_zero, List.set_cons_succ]
          refine wpAnyH_take (i := 2) (oi := ⟨_, _, _, _, _, _⟩) (v := ?vap3015q2n2) rfl (by kernel_rfl) (by kernel_rfl) (by kernel_rfl) (fun _ _ _ h => h) (Or.inl ⟨by rfl, ?hap3015q2n2⟩) (by assumption) ?_
          case hap3015q2n2 => (intro w hSw; (try dsimp only at hSw); go_simp; try with_reducible rfl)
          try simp only [Act.put, List.setIfInBounds_toArray, List.set_cons_zero, List.set_cons_succ]
          refine wpAnyH_take (i := 3) (oi := ⟨_, _, _, _, _, _⟩) (v := ?vap3015q3n3) rfl (by kernel_rfl) (by kernel_rfl) (by kernel_rfl) (fun _ _ _ h => h) (Or.inl ⟨by rfl, ?hap3015q3n3⟩) (by assumption) ?_
          case hap3015q3n3 => (intro w hSw; (try dsimp only at hSw); go_simp; try with_reducible rfl)
          try simp only [Act.put, List.setIfInBounds_toArray, List.set_cons_zero, List.set_cons_succ]
          refine wpAnyH_take (i := 4) (oi := ⟨_, _, _, _, _, _⟩) (v := ?vap3015q4n4) rfl (by kernel_rfl) (by kernel_rfl) (by kernel_rfl) (fun _ _ _ h => h) (Or.inl ⟨by rfl, ?hap3015q4n4⟩) (by assumption) ?_
          case hap3015q4n4 => (intro w hSw; (try dsimp only at hSw); go_simp; try with_reducible rfl)
          try simp only [Act.put, List.setIfInBounds_toArray, List.set_cons_zero, List.set_cons_succ]
          refine wpAnyH_take (i := 7) (oi := ⟨_, _, _, _, _, _⟩) (v := ?vap3015q5n7) rfl (by kernel_rfl) (by kernel_rfl) (by kernel_rfl) (fun _ _ _ h => h) (Or.inl ⟨by rfl, ?hap3015q5n7⟩) (by assumption) ?_
          case hap3015q5n7 => (intro w hSw; (try dsimp only at hSw); go_simp; try with_reducible rfl)
          try simp only [Act.put, List.setIfInBounds_toArray, List.set_cons_zero, List.set_cons_succ]
          refine wpAnyH_ready (rs := [5]) (by kernel_rfl) (by simp) ?_
          refine AllReadyH.cons (o := ⟨_, _, _, _, _, _⟩) rfl (fun K hK => ?_) AllReadyH.nil
          go_simp
          go_at_call 142
          refine (HSX.out _).mono ?_
          rintro e w9 ⟨rfl, hb9⟩
          refine hK.out _ _ (by exact OneT.keep hb9 HLd.out (by assumption)) (fun hHeld => ?_)
          clear hK K
          try simp only [Act.put, List.setIfInBounds_toArray, List.set_cons_zero, List.set_cons_succ]
          refine wpAnyH_take (i := 6) (oi := ⟨_, _, _, _, _, _⟩) (v := ?vap3015q6n6) rfl (by kernel_rfl) (by kernel_rfl) (by kernel_rfl) (fun _ _ _ h => h) (Or.inl ⟨by rfl, ?hap3015q6n6⟩) (by assumption) ?_
          case hap3015q6n6 => (intro w hSw; (try dsimp only at hSw); go_simp; try with_reducible rfl)
          try simp only [Act.put, List.setIfInBounds_toArray, List.set_cons_zero, List.set_cons_succ]
          refine wpAnyH_ready (rs := [8]) (by kernel_rfl) (by simp) ?_
          refine AllReadyH.cons (o := ⟨_, _, _, _, _, _⟩) rfl (fun K hK => ?_) AllReadyH.nil
          go_simp
          go_at_call 142
          refine (HSX.out _).mono ?_
          rintro e w9 ⟨rfl, hb9⟩
          refine hK.out _ _ (by exact OneT.keep hb9 HLd.out (by assumption)) (fun hHeld => ?_)
          clear hK K
          try simp only [Act.put, List.setIfInBounds_toArray, List.set_cons_zero, List.set_cons_succ]
          refine wpAnyH_take (i := 9) (oi := ⟨_, _, _, _, _, _⟩) (v := ?vap3015q7n9) rfl (by kernel_rfl) (by kernel_rfl) (by kernel_rfl) (fun _ _ _ h => h) (Or.inl ⟨by rfl, ?hap3015q7n9⟩) (by assumption) ?_
          case hap3015q7n9 => (intro w hSw; (try dsimp only at hSw); go_simp; try with_reducible rfl)
          try simp only [Act.put, List.setIfInBounds_toArray, List.set_cons_zero, List.set_cons_succ]
          refine wpAnyH_take (i := 10) (oi := ⟨_, _, _, _, _, _⟩) (v := ?vap3015q8n10) rfl (by kernel_rfl) (by kernel_rfl) (by kernel_rfl) (fun _ _ _ h => h) (Or.inl ⟨by rfl, ?hap3015q8n10⟩) (by assumption) ?_
          case hap3015q8n10 => (intro w hSw; (try dsimp only at hSw); go_simp; try with_reducible rfl)
          try simp only [Act.put, List.setIfInBounds_toArray, List.set_cons_zero, List.set_cons_succ]
          refine wpAnyH_done (by kernel_rfl) ?_ _
          have hS := (show OneT W w9 wr.heap.size cx cy dn from by assumption)
          have HCE := Lib.hid (HCW.out.below hS.2.2.2.2)
          have HEW := Lib.hid (EF.below (n0 := n0) (n := n) (v := vwj) hS.2.2.2.2)
          have HER := Lib.hid ((EF.below (n0 := n0) (n := n) (v := vwj) HBW.out).trans (EF.below hS.2.2.2.2))
          obtain ⟨s0, s1, s2, s3, s4⟩ := hS
          obtain ⟨Aw, cw, hvw, q1, q2, _⟩ := HCE.out.aw.1.rd okDomino
          subst hvw
          have cl : w9.cell? ⟨n + 2, 0, none⟩ = some (.slice Aw hd.length cw) := cell_of_one HCE.out.cw
          unfold maxLen at q2
          clear hb9 s3 s4
          go_wp2_with (at_builtin; refine wpList_push okDomino rfl _ _ rfl HCE.out.aw rfl (cx, cy, dn) _ rfl _ rfl rfl (by omega) ?_; intro v3 w3 HA3 HG3; obtain ⟨A3, k3, hv3, _⟩ := HA3.out.1.rd okDomino; rw [show (hd ++ [((cx, cy, dn) : Lk)]).length = hd.length + 1 by simp] at hv3; subst hv3; have HP3 := Lib.hid (HCE.out.push HA3.out HG3.out); obtain ⟨u9, hk9⟩ := HP3.out.2; have ck := cell_of_one hk9; have fk := free_of_one hk9; clear hk9)
          have HC10 := Lib.hid HP3.out.1
          have HEW10 := Lib.hid (HEW.out.trans (EF.grew (.slice A3 (hd.length + 1) k3) HG3.out))
          have HER10 := Lib.hid (HER.out.trans (EF.grew (.slice A3 (hd.length + 1) k3) HG3.out))
          obtain ⟨W10, HW10⟩ : ∃ X, Hid (X = w3.setCell ⟨n + 2, 0, none⟩ (.slice A3 (hd.length + 1) k3)) := ⟨_, rfl⟩
          rw [← HW10.out] at HC10 HEW10 HER10 ⊢
          have hlt3 := HOW.out.1
          have hkd : W10.heap[wr.heap.size]? = some (.cells #[.int .i64 cx, .int .i64 cy, .bool dn] 58 (0, 0)) := (HEW10.out.1 _ HLd.out (by have := HC10.out.l0; omega) (by omega) (fun e => by have := HOW.out.2 _ e; omega)).trans HKD.out
          have HKD10 := Lib.hid hkd
          have HS10 : Hid (EachS W10.drew n wr.heap.size cx cy dn) := EachS.of HC10.out.cr hkd
          have HOB : Hid ((Value.slice A3 (hd.length + 1) k3).ownBlock ≠ some (n + 3) ∧ (Value.slice A3 (hd.length + 1) k3).ownBlock ≠ some wr.heap.size) := by
            refine ⟨fun e => by have := HC10.out.bw _ e; omega, fun e => ?_⟩
            rcases HEW10.out.2.1 _ e with e | e
            · have := HOW.out.2 _ e; omega
            · have := HLd.out; omega
          have HCL := Lib.hid (HIJ.out HNF.out)
          clear HP3 HA3 HG3 HW10 HCE HEW HER hkd s0 s1 s2 cl ck fk hlt3
          clear HEW10
          go_wp2_with fail
          refine wp_region_held_drew (S := fun w' => EachS w' n wr.heap.size cx cy dn) (by kernel_rfl) (by exact HS10.out) (fun hHeld => ?_)
          refine wpAnyH_take (i := 0) (oi := ⟨_, _, _, _, _, _⟩) (v := ?vap3014q1n0) rfl (by kernel_rfl) (by kernel_rfl) (by kernel_rfl) (fun _ _ _ h => h) (Or.inl ⟨by rfl, ?hap3014q1n0⟩) (by assumption) ?_
          case hap3014q1n0 => (intro w hSw; (try dsimp only at hSw); go_simp; try with_reducible rfl)
          try simp only [Act.put, List.setIfInBounds_toArray, List.set_cons_zero, List.set_cons_succ]
          refine wpAnyH_take (i := 1) (oi := ⟨_, _, _, _, _, _⟩) (v := ?vap3014q2n1) rfl (by kernel_rfl) (by kernel_rfl) (by kernel_rfl) (fun _ _ _ h => h) (Or.inl ⟨by rfl, ?hap3014q2n1⟩) (by assumption) ?_
          case hap3014q2n1 => (intro w hSw; (try dsimp only at hSw); go_simp; try with_reducible rfl)
          try simp only [Act.put, List.setIfInBounds_toArray, List.set_cons_zero, List.set_cons_succ]
          refine wpAnyH_take (i := 2) (oi := ⟨_, _, _, _, _, _⟩) (v := ?vap3014q3n2) rfl (by kernel_rfl) (by kernel_rfl) (by kernel_rfl) (fun _ _ _ h => h) (Or.inl ⟨by rfl, ?hap3014q3n2⟩) (by assumption) ?_
          case hap3014q3n2 => (intro w hSw; (try dsimp only at hSw); go_simp; try with_reducible rfl)
          try simp only [Act.put, List.setIfInBounds_toArray, List.set_cons_zero, List.set_cons_succ]
          refine wpAnyH_ready (rs := [3]) (by kernel_rfl) (by simp) ?_
          refine AllReadyH.cons (o := ⟨_, _, _, _, _, _⟩) rfl (fun K hK => ?_) AllReadyH.nil
          go_simp
          go_at_call 142
          refine (HSX.out _).mono ?_
          rintro e w11 ⟨rfl, hb11⟩
          have hB11 : Below W10.heap.size W10 w11 := (Below.refl _ _).drew.trans hb11
          have HC11 := Lib.hid (HC10.out.below hB11)
          have HER11 := Lib.hid (HER10.out.trans (EF.below hB11))
          have HKD11 := Lib.hid (blk_below HKD10.out hB11)
          have hS11 : EachS w11 n wr.heap.size cx cy dn := EachS.of HC11.out.cr HKD11.out
          clear hb11 hB11
          refine hK.out _ _ (by first | exact hS12 | exact hS11) (fun hHeld => ?_)
          clear hK K
          try simp only [Act.put, List.setIfInBounds_toArray, List.set_cons_zero, List.set_cons_succ]
          refine wpAnyH_take (i := 4) (oi := ⟨_, _, _, _, _, _⟩) (v := ?vap3014q4n4) rfl (by kernel_rfl) (by kernel_rfl) (by kernel_rfl) (fun _ _ _ h => h) (Or.inl ⟨by rfl, ?hap3014q4n4⟩) (by assumption) ?_
          case hap3014q4n4 => (intro w hSw; (try dsimp only at hSw); go_simp; try with_reducible rfl)
          try simp only [Act.put, List.setIfInBounds_toArray, List.set_cons_zero, List.set_cons_succ]
          refine wpAnyH_ready (rs := [5]) (by kernel_rfl) (by simp) ?_
          refine AllReadyH.cons (o := ⟨_, _, _, _, _, _⟩) rfl (fun K hK => ?_) AllReadyH.nil
          go_simp
          rw [HMN.out]
          go_at_call 139
          refine (HCL.out w11 _ _ HC11.out).mono ?_
          rintro e w12 ⟨rfl, vw12, hC12, hE12⟩
          have HC12 := Lib.hid hC12
          have HE12 := Lib.hid (HER11.out.trans hE12)
          have hS12 : EachS w12 n wr.heap.size cx cy dn := EachS.of hC12.cr ((hE12.1 _ (lt_of_block HKD11.out) (by have := HC11.out.l0; have := HOW.out.1; omega) (by have := HOW.out.1; omega) HOB.out.2).trans HKD11.out)
          clear hC12 hE12
          refine hK.out _ _ (by first | exact hS12 | exact hS11) (fun hHeld => ?_)
          clear hK K
          try simp only [Act.put, List.setIfInBounds_toArray, List.set_cons_zero, List.set_cons_succ]
          refine wpAnyH_done (by kernel_rfl) ?_ _
          obtain ⟨g4, k4, hv12, l1, l2, HPOP⟩ := HC12.out.pop
          subst hv12
          unfold maxLen at l2
          have f4 : w12.cell? ⟨n + 2, 0, none⟩ = some (.slice (some ⟨g4, 0, none⟩) (hd.length + 1) k4) := cell_of_one HC12.out.cw
          have fz4 := free_of_one HC12.out.cw
          have HEF2 := Lib.hid (HEF.out.trans (HE12.out.trans (EF.cell (n0 := n0) (n := n) (v' := .slice (some ⟨g4, 0, none⟩) hd.length k4) ⟨n + 2, 0, none⟩ (.slice (some ⟨g4, 0, none⟩) hd.length k4) (.inr rfl) rfl)))
          have hh1 : IntKind.i64.wrap ((hd.length : Int) + 1 - 1) = (hd.length : Int) := by rw [IntWalk.i64_in _ (by omega)]; omega
          have hh2 : (hd.length : Int) + 1 - 1 = (hd.length : Int) := by omega
          have HFIN : Hid (xs (j + 1) = cntE (iffB a b) d (minN s m) (hd ++ [(cx, cy, dn)]) (xs j)) := by unfold Hid; rw [HXJ.out, HNF.out]; rfl
          rw [← HFIN.out] at HPOP
          clear HFIN
          go_wp2_with fail
          go_roundw
          case rel => exact ⟨j + 1, _, by omega, by go_num, HPOP, HEF2⟩
          case measure => simp [intOf]; omega
    · have ht : decide ((j : Int) < 2) = false := by simp only [decide_eq_false_iff_not]; omega
      obtain rfl : j = 2 := by omega
      go_wp2_with fail
      go_end0
      exact ⟨rfl, _, HC.out, HE0.out.trans HEF.out⟩
end Go.Proofs.Ytiecphhenpapoaa
