/- What the claim's walk rests on: parts EachL2, Count, EachL3. -/
import Derived.Test.YtehnbalbpfmijaaGreatDoorKb3
import Derived.Test.YtehnbalbpfmijaaGreatDoorKb2
import Derived.Deep.Cut
namespace Go.Proofs.YtehnbalbpfmijaaGreatDoor
open Go.RowKit
set_option linter.unusedVariables false

set_option maxRecDepth 100000 in
set_option maxHeartbeats 8000000 in
theorem eachl_step (w0 : World) (n0 o0 lo n d s : Nat) (hd : List Lk) (hs : s ≠ 0) (hl : s < 18446744073709551616) (hh : hd.length ≤ 100)
    (IH : ∀ down, fitB s (dOf (fstN s) down) = true → EachAtL w0 n0 o0 lo n d (minN s (dM (dOf (fstN s) down))) (hd ++ [dOf (fstN s) down])) : EachAtL w0 n0 o0 lo n (d + 1) s hd := by
  intro wr x vo vw h hO
  have hsz : ((s : Int) == 0) = false := by rw [beq_eq_false_iff_ne]; omega
  obtain ⟨xs, HXE⟩ : ∃ xs : Nat → List (List Lk), Hid (xs = fun j => if j = 0 then x else if j = 1 then (if fitB s (dOf (fstN s) false) then lstE d (minN s (dM (dOf (fstN s) false))) (hd ++ [dOf (fstN s) false]) x else x) else lstE (d + 1) s hd x) := ⟨_, rfl⟩
  have HX0 : Hid (xs 0 = x) := by rw [HXE.out]; rfl
  have HX2 : Hid (xs 2 = lstE (d + 1) s hd x) := by rw [HXE.out]; rfl
  have HXS : Hid (∀ j, j < 2 → xs (j + 1) = if fitB s (dOf (fstN s) (decide (j = 1))) then lstE d (minN s (dM (dOf (fstN s) (decide (j = 1))))) (hd ++ [dOf (fstN s) (decide (j = 1))]) (xs j) else xs j) := by
    intro j hj
    rw [HXE.out]
    rcases (show j = 0 ∨ j = 1 by omega) with rfl | rfl
    · rfl
    · simp only [lstE, if_neg hs]; rfl
  have HXM : Hid (∀ j, j < 2 → (xs (j + 1)).length ≤ 1000000) := by
    intro j hj
    have h2 : (xs 2).length ≤ 1000000 := by rw [HX2.out]; exact hO
    rcases (show j = 0 ∨ j = 1 by omega) with rfl | rfl
    · refine Nat.le_trans ?_ h2
      rw [HXS.out 1 (by omega)]
      split
      · exact lstE_le _ _ _ _
      · exact Nat.le_refl _
    · exact h2
  rw [← HX2.out]
  have HFC := Lib.hid (firstCell_any s hs hl)
  have HIH := Lib.hid IH
  have hf64 := (fstN_spec hs hl).2.1
  clear HXE HX2 IH hs
  generalize fstN s = f at *
  have H := Lib.hid h
  clear h
  go_enter Tryz.func69, Tryz.ntmps69
  go_wp2_with fail
  refine (HFC.out _).mono ?_
  rintro e w1 ⟨rfl, hb1⟩
  obtain ⟨cx, HCX⟩ : ∃ z : Int, Hid (((f % 8 : Nat) : Int) = z) := ⟨_, rfl⟩
  obtain ⟨cy, HCY⟩ : ∃ z : Int, Hid (((f / 8 : Nat) : Int) = z) := ⟨_, rfl⟩
  have HDO : Hid (∀ dn, dOf f dn = (cx, cy, dn)) := fun dn => by unfold dOf; rw [HCX.out, HCY.out]
  rw [HCX.out, HCY.out]
  have H1 := Lib.hid (H.out.below hb1)
  have HE1 : Hid (EFL n0 n wr w1 vo vw vo vw) := EFL.below hb1
  clear hb1 H HCX HCY
  go_wp2_with fail
  obtain ⟨Ws, hWs, kc, kb, hbs⟩ := two_alloc w1 (.cells #[.int .i64 cx, .int .i64 cy] 44) (.cells #[.bool false, .bool true] 4)
  rw [← hWs]
  have HC0 := Lib.hid (H1.out.below hbs)
  have HE0 := Lib.hid (HE1.out.trans (EFL.below hbs))
  have HLC := Lib.hid (show n + 3 < w1.heap.size ∧ n0 < n ∧ (∀ g, vw.ownBlock = some g → g < w1.heap.size) ∧ ∀ g, vo.ownBlock = some g → g < w1.heap.size from ⟨lt_of_block H1.out.cr, H1.out.pl.c, (fun g hg => (H1.out.aw.1.lt g hg).2), H1.out.lto⟩)
  have HKC := Lib.hid kc; have HKB := Lib.hid kb
  have HSW : Hid (w1.heap.size + 1 < Ws.heap.size) := lt_of_block kb
  clear hWs kc kb hbs H1 HE1
  go_loopw [18] (fun i wr2 => ∃ (j : Nat) (voj vwj : Value), j ≤ 2 ∧ i = .int .i64 j ∧ Hid (CL w0 wr2 n0 o0 lo n (xs j) voj vwj hd) ∧ Hid (EFL n0 n Ws wr2 vo vw voj vwj)) (fun i _ => 2 - (intOf i).toNat)
  case atStart => exact ⟨0, vo, vw, by omega, rfl, (by rw [HX0.out]; exact HC0), EFL.refl⟩
  case round =>
    obtain ⟨j, voj, vwj, hj, rfl, HC, HEF⟩ := hrel
    by_cases hj2 : j < 2
    · have ht : decide ((j : Int) < 2) = true := by simp only [decide_eq_true_eq]; omega
      have hj0 : (0 : Int) ≤ (j : Int) := by omega
      have hj1 : (j : Int) < 2 := by omega
      have HXJ := Lib.hid (HXS.out j hj2)
      have hlc := HLC.out
      have hsw := HSW.out
      have hkc : wr.heap[w1.heap.size]? = some (.cells #[.int .i64 cx, .int .i64 cy] 44 (0, 0)) := (HEF.out.1 _ (by omega) (by omega) (by omega) (fun e => by have := hlc.2.2.2 _ e; omega) (fun e => by have := hlc.2.2.1 _ e; omega)).trans HKC.out
      have hkb : wr.heap[w1.heap.size + 1]? = some (.cells #[.bool false, .bool true] 4 (0, 0)) := (HEF.out.1 _ (by omega) (by omega) (by omega) (fun e => by have := hlc.2.2.2 _ e; omega) (fun e => by have := hlc.2.2.1 _ e; omega)).trans HKB.out
      have cc0 : wr.cell? ⟨w1.heap.size, 0, none⟩ = some (.int .i64 cx) := by rw [blk_cell hkc]; rfl
      have cc1 : wr.cell? ⟨w1.heap.size, 1, none⟩ = some (.int .i64 cy) := by rw [blk_cell hkc]; rfl
      have cb := cell_of_bools hkb j hj2
      obtain ⟨dn, HDN⟩ : ∃ dn, Hid (decide (j = 1) = dn) := ⟨_, rfl⟩
      rw [HDN.out] at cb HXJ
      rw [HDO.out dn] at HXJ
      have HIJ := Lib.hid (HIH.out dn)
      rw [HDO.out dn] at HIJ
      clear hkc hkb hlc hsw HDN
      go_wp2_with fail
      obtain ⟨W, hW, kd, hbW⟩ := one_alloc wr (.cells #[.int .i64 cx, .int .i64 cy, .bool dn] 51)
      rw [← hW]
      have HCW := Lib.hid (HC.out.below hbW)
      have HLd : Hid (wr.heap.size < W.heap.size) := lt_of_block kd
      have HS0 : Hid (OneT W W.drew wr.heap.size cx cy dn) := (OneT.of kd).drew
      have HBW := Lib.hid hbW
      have HKD := Lib.hid kd
      have HOW := Lib.hid (show n + 3 < wr.heap.size ∧ (∀ g, vwj.ownBlock = some g → g < wr.heap.size) ∧ ∀ g, voj.ownBlock = some g → g < wr.heap.size from ⟨lt_of_block HC.out.cr, (fun g hg => (HC.out.aw.1.lt g hg).2), HC.out.lto⟩)
      have HXL := Lib.hid (HXM.out j hj2)
      clear hW kd hbW cc0 cc1 cb HC
      cases hdb : domB cx cy dn
      · have HDB := Lib.hid hdb
        have HNF : Hid (fitB s (cx, cy, dn) = false) := by unfold Hid fitB domL; simp [hdb]
        clear hdb
        go_wp2_with fail
        refine wp_region_held_drew (S := fun w' => OneT W w' wr.heap.size cx cy dn) (by kernel_rfl) (by exact HS0.out) (fun hHeld => ?_)
        refine wpAnyH_take (i := 0) (oi := ⟨_, _, _, _, _, _⟩) (v := ?vap14884q1n0) rfl (by kernel_rfl) (by kernel_rfl) (by kernel_rfl) (fun _ _ _ h => h) (Or.inl ⟨by rfl, ?hap14884q1n0⟩) (by assumption) ?_
        case hap14884q1n0 => (intro w hSw; (try dsimp only at hSw); go_simp; try with_reducible rfl)
        try simp only [Act.put, List.setIfInBounds_toArray, List.set_cons_zero, List.set_cons_succ]
        refine wpAnyH_ready (rs := [1]) (by kernel_rfl) (by simp) ?_
        refine AllReadyH.cons (o := ⟨_, _, _, _, _, _⟩) rfl (fun K hK => ?_) AllReadyH.nil
        go_simp
        go_at_call 53
        refine (DominoOk_any cx cy dn _).mono ?_
        rintro e w9 ⟨rfl, hb9⟩
        rw [HDB.out]
        refine hK.out _ _ (by exact OneT.keep hb9 HLd.out (by assumption)) (fun hHeld => ?_)
        clear hK K
        try simp only [Act.put, List.setIfInBounds_toArray, List.set_cons_zero, List.set_cons_succ]
        refine wpAnyH_take (i := 2) (oi := ⟨_, _, _, _, _, _⟩) (v := ?vap14884q2n2) rfl (by kernel_rfl) (by kernel_rfl) (by kernel_rfl) (fun _ _ _ h => h) (Or.inl ⟨by rfl, ?hap14884q2n2⟩) (by assumption) ?_
        case hap14884q2n2 => (intro w hSw; (try dsimp only at hSw); go_simp; try with_reducible rfl)
        try simp only [Act.put, List.setIfInBounds_toArray, List.set_cons_zero, List.set_cons_succ]
        refine wpAnyH_take (i := 3) (oi := ⟨_, _, _, _, _, _⟩) (v := undef) rfl (by kernel_rfl) (by kernel_rfl) (by kernel_rfl) (fun _ _ _ h => h) (Or.inr ⟨by rfl, rfl⟩) (by assumption) ?_
        try simp only [Act.put, List.setIfInBounds_toArray, List.set_cons_zero, List.set_cons_succ]
        refine wpAnyH_take (i := 4) (oi := ⟨_, _, _, _, _, _⟩) (v := undef) rfl (by kernel_rfl) (by kernel_rfl) (by kernel_rfl) (fun _ _ _ h => h) (Or.inr ⟨by rfl, rfl⟩) (by assumption) ?_
        try simp only [Act.put, List.setIfInBounds_toArray, List.set_cons_zero, List.set_cons_succ]
        refine wpAnyH_take (i := 5) (oi := ⟨_, _, _, _, _, _⟩) (v := undef) rfl (by kernel_rfl) (by kernel_rfl) (by kernel_rfl) (fun _ _ _ h => h) (Or.inr ⟨by rfl, rfl⟩) (by assumption) ?_
        try simp only [Act.put, List.setIfInBounds_toArray, List.set_cons_zero, List.set_cons_succ]
        refine wpAnyH_take (i := 6) (oi := ⟨_, _, _, _, _, _⟩) (v := undef) rfl (by kernel_rfl) (by kernel_rfl) (by kernel_rfl) (fun _ _ _ h => h) (Or.inr ⟨by rfl, rfl⟩) (by assumption) ?_
        try simp only [Act.put, List.setIfInBounds_toArray, List.set_cons_zero, List.set_cons_succ]
        refine wpAnyH_take (i := 7) (oi := ⟨_, _, _, _, _, _⟩) (v := undef) rfl (by kernel_rfl) (by kernel_rfl) (by kernel_rfl) (fun _ _ _ h => h) (Or.inr ⟨by rfl, rfl⟩) (by assumption) ?_
        try simp only [Act.put, List.setIfInBounds_toArray, List.set_cons_zero, List.set_cons_succ]
        refine wpAnyH_take (i := 8) (oi := ⟨_, _, _, _, _, _⟩) (v := undef) rfl (by kernel_rfl) (by kernel_rfl) (by kernel_rfl) (fun _ _ _ h => h) (Or.inr ⟨by rfl, rfl⟩) (by assumption) ?_
        try simp only [Act.put, List.setIfInBounds_toArray, List.set_cons_zero, List.set_cons_succ]
        refine wpAnyH_take (i := 9) (oi := ⟨_, _, _, _, _, _⟩) (v := undef) rfl (by kernel_rfl) (by kernel_rfl) (by kernel_rfl) (fun _ _ _ h => h) (Or.inr ⟨by rfl, rfl⟩) (by assumption) ?_
        try simp only [Act.put, List.setIfInBounds_toArray, List.set_cons_zero, List.set_cons_succ]
        refine wpAnyH_take (i := 10) (oi := ⟨_, _, _, _, _, _⟩) (v := ?vap14884q3n10) rfl (by kernel_rfl) (by kernel_rfl) (by kernel_rfl) (fun _ _ _ h => h) (Or.inl ⟨by rfl, ?hap14884q3n10⟩) (by assumption) ?_
        case hap14884q3n10 => (intro w hSw; (try dsimp only at hSw); go_simp; try with_reducible rfl)
        try simp only [Act.put, List.setIfInBounds_toArray, List.set_cons_zero, List.set_cons_succ]
        refine wpAnyH_done (by kernel_rfl) ?_ _
        have HEN : Hid (xs (j + 1) = xs j) := by unfold Hid; rw [HXJ.out]; simp [HNF.out]
        have hS := (show OneT W _ wr.heap.size cx cy dn from by assumption)
        have HCE := Lib.hid (HCW.out.below hS.2.2.2.2)
        have HEE := Lib.hid (HEF.out.trans ((EFL.below HBW.out).trans (EFL.below hS.2.2.2.2)))
        clear hS
        go_wp2_with fail
        go_roundw
        case rel => exact ⟨j + 1, _, _, by omega, by go_num, (by rw [HEN.out]; exact HCE), HEE⟩
        case measure => simp [intOf]; omega
      · have HDB := Lib.hid hdb
        have HSX := Lib.hid (fun W => dset_Z cx cy dn W hdb)
        have HML := Lib.hid (dM_lt (l := (cx, cy, dn)) hdb)
        have HFB : Hid (fitB s (cx, cy, dn) = (s &&& dM (cx, cy, dn) == dM (cx, cy, dn))) := by unfold Hid fitB domL; simp [hdb]
        have HAN := Lib.hid (u64_and_nat s (dM (cx, cy, dn)) hl HML.out)
        have HNN := Lib.hid (u64_andNot_nat s (dM (cx, cy, dn)) hl HML.out)
        clear hdb
        obtain ⟨m, HM⟩ : ∃ m, Hid (dM (cx, cy, dn) = m) := ⟨_, rfl⟩
        rw [HM.out] at HSX HML HFB HAN HNN HXJ HIJ
        have HMN : Hid (bits .andNot .u64 (s : Int) (m : Int) = ((minN s m : Nat) : Int)) := HNN.out
        clear HNN
        cases hft : (s &&& m == m)
        · have hq : (bits .and .u64 (s : Int) (m : Int) == (m : Int)) = false := by rw [HAN.out, beq_eq_false_iff_ne]; rw [beq_eq_false_iff_ne] at hft; omega
          have HNF : Hid (fitB s (cx, cy, dn) = false) := by rw [HFB.out]; exact hft
          clear hft
          go_wp2_with fail
          refine wp_region_held_drew (S := fun w' => OneT W w' wr.heap.size cx cy dn) (by kernel_rfl) (by exact HS0.out) (fun hHeld => ?_)
          refine wpAnyH_take (i := 0) (oi := ⟨_, _, _, _, _, _⟩) (v := ?vap14899q1n0) rfl (by kernel_rfl) (by kernel_rfl) (by kernel_rfl) (fun _ _ _ h => h) (Or.inl ⟨by rfl, ?hap14899q1n0⟩) (by assumption) ?_
          case hap14899q1n0 => (intro w hSw; (try dsimp only at hSw); go_simp; try with_reducible rfl)
          try simp only [Act.put, List.setIfInBounds_toArray, List.set_cons_zero, List.set_cons_succ]
          refine wpAnyH_ready (rs := [1]) (by kernel_rfl) (by simp) ?_
          refine AllReadyH.cons (o := ⟨_, _, _, _, _, _⟩) rfl (fun K hK => ?_) AllReadyH.nil
          go_simp
          go_at_call 53
          refine (DominoOk_any cx cy dn _).mono ?_
          rintro e w9 ⟨rfl, hb9⟩
          rw [HDB.out]
          refine hK.out _ _ (by exact OneT.keep hb9 HLd.out (by assumption)) (fun hHeld => ?_)
          clear hK K
          try simp only [Act.put, List.setIfInBounds_toArray, List.set_cons_zero, List.set_cons_succ]
          refine wpAnyH_take (i := 2) (oi := ⟨_, _, _, _, _, _⟩) (v := ?vap14899q2n2) rfl (by kernel_rfl) (by kernel_rfl) (by kernel_rfl) (fun _ _ _ h => h) (Or.inl ⟨by rfl, ?hap14899q2n2⟩) (by assumption) ?_
          case hap14899q2n2 => (intro w hSw; (try dsimp only at hSw); go_simp; try with_reducible rfl)
          try simp only [Act.put, List.setIfInBounds_toArray, List.set_cons_zero, List.set_cons_succ]
          refine wpAnyH_take (i := 3) (oi := ⟨_, _, _, _, _, _⟩) (v := ?vap14899q3n3) rfl (by kernel_rfl) (by kernel_rfl) (by kernel_rfl) (fun _ _ _ h => h) (Or.inl ⟨by rfl, ?hap14899q3n3⟩) (by assumption) ?_
          case hap14899q3n3 => (intro w hSw; (try dsimp only at hSw); go_simp; try with_reducible rfl)
          try simp only [Act.put, List.setIfInBounds_toArray, List.set_cons_zero, List.set_cons_succ]
          refine wpAnyH_take (i := 4) (oi := ⟨_, _, _, _, _, _⟩) (v := ?vap14899q4n4) rfl (by kernel_rfl) (by kernel_rfl) (by kernel_rfl) (fun _ _ _ h => h) (Or.inl ⟨by rfl, ?hap14899q4n4⟩) (by assumption) ?_
          case hap14899q4n4 => (intro w hSw; (try dsimp only at hSw); go_simp; try with_reducible rfl)
          try simp only [Act.put, List.setIfInBounds_toArray, List.set_cons_zero, List.set_cons_succ]
          refine wpAnyH_take (i := 7) (oi := ⟨_, _, _, _, _, _⟩) (v := ?vap14899q5n7) rfl (by kernel_rfl) (by kernel_rfl) (by kernel_rfl) (fun _ _ _ h => h) (Or.inl ⟨by rfl, ?hap14899q5n7⟩) (by assumption) ?_
          case hap14899q5n7 => (intro w hSw; (try dsimp only at hSw); go_simp; try with_reducible rfl)
          try simp only [Act.put, List.setIfInBounds_toArray, List.set_cons_zero, List.set_cons_succ]
          refine wpAnyH_ready (rs := [5]) (by kernel_rfl) (by simp) ?_
          refine AllReadyH.cons (o := ⟨_, _, _, _, _, _⟩) rfl (fun K hK => ?_) AllReadyH.nil
          go_simp
          go_at_call 71
          refine (HSX.out _).mono ?_
          rintro e w9 ⟨rfl, hb9⟩
          refine hK.out _ _ (by exact OneT.keep hb9 HLd.out (by assumption)) (fun hHeld => ?_)
          clear hK K
          try simp only [Act.put, List.setIfInBounds_toArray, List.set_cons_zero, List.set_cons_succ]
          refine wpAnyH_take (i := 6) (oi := ⟨_, _, _, _, _, _⟩) (v := ?vap14899q6n6) rfl (by kernel_rfl) (by kernel_rfl) (by kernel_rfl) (fun _ _ _ h => h) (Or.inl ⟨by rfl, ?hap14899q6n6⟩) (by assumption) ?_
          case hap14899q6n6 => (intro w hSw; (try dsimp only at hSw); go_simp; try with_reducible rfl)
          try simp only [Act.put, List.setIfInBounds_toArray, List.set_cons_zero, List.set_cons_succ]
          refine wpAnyH_ready (rs := [8]) (by kernel_rfl) (by simp) ?_
          refine AllReadyH.cons (o := ⟨_, _, _, _, _, _⟩) rfl (fun K hK => ?_) AllReadyH.nil
          go_simp
          go_at_call 71
          refine (HSX.out _).mono ?_
          rintro e w9 ⟨rfl, hb9⟩
          refine hK.out _ _ (by exact OneT.keep hb9 HLd.out (by assumption)) (fun hHeld => ?_)
          clear hK K
          try simp only [Act.put, List.setIfInBounds_toArray, List.set_cons_zero, List.set_cons_succ]
          refine wpAnyH_take (i := 9) (oi := ⟨_, _, _, _, _, _⟩) (v := ?vap14899q7n9) rfl (by kernel_rfl) (by kernel_rfl) (by kernel_rfl) (fun _ _ _ h => h) (Or.inl ⟨by rfl, ?hap14899q7n9⟩) (by assumption) ?_
          case hap14899q7n9 => (intro w hSw; (try dsimp only at hSw); go_simp; try with_reducible rfl)
          try simp only [Act.put, List.setIfInBounds_toArray, List.set_cons_zero, List.set_cons_succ]
          refine wpAnyH_take (i := 10) (oi := ⟨_, _, _, _, _, _⟩) (v := ?vap14899q8n10) rfl (by kernel_rfl) (by kernel_rfl) (by kernel_rfl) (fun _ _ _ h => h) (Or.inl ⟨by rfl, ?hap14899q8n10⟩) (by assumption) ?_
          case hap14899q8n10 => (intro w hSw; (try dsimp only at hSw); go_simp; try with_reducible rfl)
          try simp only [Act.put, List.setIfInBounds_toArray, List.set_cons_zero, List.set_cons_succ]
          refine wpAnyH_done (by kernel_rfl) ?_ _
          have HEN : Hid (xs (j + 1) = xs j) := by unfold Hid; rw [HXJ.out]; simp [HNF.out]
          have hS := (show OneT W _ wr.heap.size cx cy dn from by assumption)
          have HCE := Lib.hid (HCW.out.below hS.2.2.2.2)
          have HEE := Lib.hid (HEF.out.trans ((EFL.below HBW.out).trans (EFL.below hS.2.2.2.2)))
          clear hS
          go_wp2_with fail
          go_roundw
          case rel => exact ⟨j + 1, _, _, by omega, by go_num, (by rw [HEN.out]; exact HCE), HEE⟩
          case measure => simp [intOf]; omega
        · have hq : (bits .and .u64 (s : Int) (m : Int) == (m : Int)) = true := by rw [HAN.out, beq_iff_eq]; rw [beq_iff_eq] at hft; omega
          have HNF : Hid (fitB s (cx, cy, dn) = true) := by rw [HFB.out]; exact hft
          clear hft
          go_wp2_with fail
          refine wp_region_held_drew (S := fun w' => OneT W w' wr.heap.size cx cy dn) (by kernel_rfl) (by exact HS0.out) (fun hHeld => ?_)
          refine wpAnyH_take (i := 0) (oi := ⟨_, _, _, _, _, _⟩) (v := ?vap14901q1n0) rfl (by kernel_rfl) (by kernel_rfl) (by kernel_rfl) (fun _ _ _ h => h) (Or.inl ⟨by rfl, ?hap14901q1n0⟩) (by assumption) ?_
          case hap14901q1n0 => (intro w hSw; (try dsimp only at hSw); go_simp; try with_reducible rfl)
          try simp only [Act.put, List.setIfInBounds_toArray, List.set_cons_zero, List.set_cons_succ]
          refine wpAnyH_ready (rs := [1]) (by kernel_rfl) (by simp) ?_
          refine AllReadyH.cons (o := ⟨_, _, _, _, _, _⟩) rfl (fun K hK => ?_) AllReadyH.nil
          go_simp
          go_at_call 53
          refine (DominoOk_any cx cy dn _).mono ?_
          rintro e w9 ⟨rfl, hb9⟩
          rw [HDB.out]
          refine hK.out _ _ (by exact OneT.keep hb9 HLd.out (by assumption)) (fun hHeld => ?_)
          clear hK K
          try simp only [Act.put, List.setIfInBounds_toArray, List.set_cons_zero, List.set_cons_succ]
          refine wpAnyH_take (i := 2) (oi := ⟨_, _, _, _, _, _⟩) (v := ?vap14901q2n2) rfl (by kernel_rfl) (by kernel_rfl) (by kernel_rfl) (fun _ _ _ h => h) (Or.inl ⟨by rfl, ?hap14901q2n2⟩) (by assumption) ?_
          case hap14901q2n2 => (intro w hSw; (try dsimp only at hSw); go_simp; try with_reducible rfl)
          try simp only [Act.put, List.setIfInBounds_toArray, List.set_cons_zero, List.set_cons_succ]
          refine wpAnyH_take (i := 3) (oi := ⟨_, _, _, _, _, _⟩) (v := ?vap14901q3n3) rfl (by kernel_rfl) (by kernel_rfl) (by kernel_rfl) (fun _ _ _ h => h) (Or.inl ⟨by rfl, ?hap14901q3n3⟩) (by assumption) ?_
          case hap14901q3n3 => (intro w hSw; (try dsimp only at hSw); go_simp; try with_reducible rfl)
          try simp only [Act.put, List.setIfInBounds_toArray, List.set_cons_zero, List.set_cons_succ]
          refine wpAnyH_take (i := 4) (oi := ⟨_, _, _, _, _, _⟩) (v := ?vap14901q4n4) rfl (by kernel_rfl) (by kernel_rfl) (by kernel_rfl) (fun _ _ _ h => h) (Or.inl ⟨by rfl, ?hap14901q4n4⟩) (by assumption) ?_
          case hap14901q4n4 => (intro w hSw; (try dsimp only at hSw); go_simp; try with_reducible rfl)
          try simp only [Act.put, List.setIfInBounds_toArray, List.set_cons_zero, List.set_cons_succ]
          refine wpAnyH_take (i := 7) (oi := ⟨_, _, _, _, _, _⟩) (v := ?vap14901q5n7) rfl (by kernel_rfl) (by kernel_rfl) (by kernel_rfl) (fun _ _ _ h => h) (Or.inl ⟨by rfl, ?hap14901q5n7⟩) (by assumption) ?_
          case hap14901q5n7 => (intro w hSw; (try dsimp only at hSw); go_simp; try with_reducible rfl)
          try simp only [Act.put, List.setIfInBounds_toArray, List.set_cons_zero, List.set_cons_succ]
          refine wpAnyH_ready (rs := [5]) (by kernel_rfl) (by simp) ?_
          refine AllReadyH.cons (o := ⟨_, _, _, _, _, _⟩) rfl (fun K hK => ?_) AllReadyH.nil
          go_simp
          go_at_call 71
          refine (HSX.out _).mono ?_
          rintro e w9 ⟨rfl, hb9⟩
          refine hK.out _ _ (by exact OneT.keep hb9 HLd.out (by assumption)) (fun hHeld => ?_)
          clear hK K
          try simp only [Act.put, List.setIfInBounds_toArray, List.set_cons_zero, List.set_cons_succ]
          refine wpAnyH_take (i := 6) (oi := ⟨_, _, _, _, _, _⟩) (v := ?vap14901q6n6) rfl (by kernel_rfl) (by kernel_rfl) (by kernel_rfl) (fun _ _ _ h => h) (Or.inl ⟨by rfl, ?hap14901q6n6⟩) (by assumption) ?_
          case hap14901q6n6 => (intro w hSw; (try dsimp only at hSw); go_simp; try with_reducible rfl)
          try simp only [Act.put, List.setIfInBounds_toArray, List.set_cons_zero, List.set_cons_succ]
          refine wpAnyH_ready (rs := [8]) (by kernel_rfl) (by simp) ?_
          refine AllReadyH.cons (o := ⟨_, _, _, _, _, _⟩) rfl (fun K hK => ?_) AllReadyH.nil
          go_simp
          go_at_call 71
          refine (HSX.out _).mono ?_
          rintro e w9 ⟨rfl, hb9⟩
          refine hK.out _ _ (by exact OneT.keep hb9 HLd.out (by assumption)) (fun hHeld => ?_)
          clear hK K
          try simp only [Act.put, List.setIfInBounds_toArray, List.set_cons_zero, List.set_cons_succ]
          refine wpAnyH_take (i := 9) (oi := ⟨_, _, _, _, _, _⟩) (v := ?vap14901q7n9) rfl (by kernel_rfl) (by kernel_rfl) (by kernel_rfl) (fun _ _ _ h => h) (Or.inl ⟨by rfl, ?hap14901q7n9⟩) (by assumption) ?_
          case hap14901q7n9 => (intro w hSw; (try dsimp only at hSw); go_simp; try with_reducible rfl)
          try simp only [Act.put, List.setIfInBounds_toArray, List.set_cons_zero, List.set_cons_succ]
          refine wpAnyH_take (i := 10) (oi := ⟨_, _, _, _, _, _⟩) (v := ?vap14901q8n10) rfl (by kernel_rfl) (by kernel_rfl) (by kernel_rfl) (fun _ _ _ h => h) (Or.inl ⟨by rfl, ?hap14901q8n10⟩) (by assumption) ?_
          case hap14901q8n10 => (intro w hSw; (try dsimp only at hSw); go_simp; try with_reducible rfl)
          try simp only [Act.put, List.setIfInBounds_toArray, List.set_cons_zero, List.set_cons_succ]
          refine wpAnyH_done (by kernel_rfl) ?_ _
          have hS := (show OneT W w9 wr.heap.size cx cy dn from by assumption)
          have HCE := Lib.hid (HCW.out.below hS.2.2.2.2)
          have HEW := Lib.hid (EFL.below (n0 := n0) (n := n) (vo := voj) (vw := vwj) hS.2.2.2.2)
          have HER := Lib.hid ((EFL.below (n0 := n0) (n := n) (vo := voj) (vw := vwj) HBW.out).trans (EFL.below hS.2.2.2.2))
          obtain ⟨s0, s1, s2, s3, s4⟩ := hS
          obtain ⟨Aw, cw, hvw, q1, q2, _⟩ := HCE.out.aw.1.rd okDomino
          subst hvw
          have cl : w9.cell? ⟨n + 2, 0, none⟩ = some (.slice Aw hd.length cw) := cell_of_one HCE.out.cw
          unfold maxLen at q2
          clear hb9 s3 s4
          go_wp2_with (at_builtin; refine wpList_push okDomino rfl _ _ rfl HCE.out.aw rfl (cx, cy, dn) _ rfl _ rfl rfl (by omega) ?_; intro v3 w3 HA3 HG3; obtain ⟨A3, k3, hv3, _⟩ := HA3.out.1.rd okDomino; rw [show (hd ++ [((cx, cy, dn) : Lk)]).length = hd.length + 1 by simp] at hv3; subst hv3; have HP3 := Lib.hid (HCE.out.push HA3.out HG3.out); obtain ⟨u9, hk9⟩ := HP3.out.2; have ck := cell_of_one hk9; have fk := free_of_one hk9; clear hk9)
          have HC10 := Lib.hid HP3.out.1
          have HEW10 := Lib.hid (HEW.out.trans (EFL.grewW (.slice A3 (hd.length + 1) k3) HG3.out))
          have HER10 := Lib.hid (HER.out.trans (EFL.grewW (.slice A3 (hd.length + 1) k3) HG3.out))
          obtain ⟨W10, HW10⟩ : ∃ X, Hid (X = w3.setCell ⟨n + 2, 0, none⟩ (.slice A3 (hd.length + 1) k3)) := ⟨_, rfl⟩
          rw [← HW10.out] at HC10 HEW10 HER10 ⊢
          have hlt3 := HOW.out.1
          have hkd : W10.heap[wr.heap.size]? = some (.cells #[.int .i64 cx, .int .i64 cy, .bool dn] 51 (0, 0)) := (HEW10.out.1 _ HLd.out (by have := HC10.out.pl.c; omega) (by omega) (fun e => by have := HOW.out.2.2 _ e; omega) (fun e => by have := HOW.out.2.1 _ e; omega)).trans HKD.out
          have HKD10 := Lib.hid hkd
          have HS10 : Hid (EachS W10.drew n wr.heap.size cx cy dn) := EachS.of HC10.out.cr hkd
          have HOB : Hid ((Value.slice A3 (hd.length + 1) k3).ownBlock ≠ some (n + 3) ∧ (Value.slice A3 (hd.length + 1) k3).ownBlock ≠ some wr.heap.size) := by
            refine ⟨fun e => by have := HC10.out.bw _ e; omega, fun e => ?_⟩
            rcases HEW10.out.w _ e with e | e
            · have := HOW.out.2.1 _ e; omega
            · have := HLd.out; omega
          have HCL := Lib.hid (HIJ.out HNF.out)
          have HLEN : Hid ((lstE d (minN s m) (hd ++ [(cx, cy, dn)]) (xs j)).length ≤ 1000000) := by
            have h1 := HXL.out
            rw [HXJ.out, HNF.out] at h1
            exact h1
          clear HP3 HA3 HG3 HW10 HCE HEW HER hkd s0 s1 s2 cl ck fk hlt3
          clear HEW10
          go_wp2_with fail
          refine wp_region_held_drew (S := fun w' => EachS w' n wr.heap.size cx cy dn) (by kernel_rfl) (by exact HS10.out) (fun hHeld => ?_)
          refine wpAnyH_take (i := 0) (oi := ⟨_, _, _, _, _, _⟩) (v := ?vap14900q1n0) rfl (by kernel_rfl) (by kernel_rfl) (by kernel_rfl) (fun _ _ _ h => h) (Or.inl ⟨by rfl, ?hap14900q1n0⟩) (by assumption) ?_
          case hap14900q1n0 => (intro w hSw; (try dsimp only at hSw); go_simp; try with_reducible rfl)
          try simp only [Act.put, List.setIfInBounds_toArray, List.set_cons_zero, List.set_cons_succ]
          refine wpAnyH_take (i := 1) (oi := ⟨_, _, _, _, _, _⟩) (v := ?vap14900q2n1) rfl (by kernel_rfl) (by kernel_rfl) (by kernel_rfl) (fun _ _ _ h => h) (Or.inl ⟨by rfl, ?hap14900q2n1⟩) (by assumption) ?_
          case hap14900q2n1 => (intro w hSw; (try dsimp only at hSw); go_simp; try with_reducible rfl)
          try simp only [Act.put, List.setIfInBounds_toArray, List.set_cons_zero, List.set_cons_succ]
          refine wpAnyH_take (i := 2) (oi := ⟨_, _, _, _, _, _⟩) (v := ?vap14900q3n2) rfl (by kernel_rfl) (by kernel_rfl) (by kernel_rfl) (fun _ _ _ h => h) (Or.inl ⟨by rfl, ?hap14900q3n2⟩) (by assumption) ?_
          case hap14900q3n2 => (intro w hSw; (try dsimp only at hSw); go_simp; try with_reducible rfl)
          try simp only [Act.put, List.setIfInBounds_toArray, List.set_cons_zero, List.set_cons_succ]
          refine wpAnyH_ready (rs := [3]) (by kernel_rfl) (by simp) ?_
          refine AllReadyH.cons (o := ⟨_, _, _, _, _, _⟩) rfl (fun K hK => ?_) AllReadyH.nil
          go_simp
          go_at_call 71
          refine (HSX.out _).mono ?_
          rintro e w11 ⟨rfl, hb11⟩
          have hB11 : Below W10.heap.size W10 w11 := (Below.refl _ _).drew.trans hb11
          have HC11 := Lib.hid (HC10.out.below hB11)
          have HER11 := Lib.hid (HER10.out.trans (EFL.below hB11))
          have HKD11 := Lib.hid (blk_below HKD10.out hB11)
          have hS11 : EachS w11 n wr.heap.size cx cy dn := EachS.of HC11.out.cr HKD11.out
          clear hb11 hB11
          refine hK.out _ _ (by first | exact hS12 | exact hS11) (fun hHeld => ?_)
          clear hK K
          try simp only [Act.put, List.setIfInBounds_toArray, List.set_cons_zero, List.set_cons_succ]
          refine wpAnyH_take (i := 4) (oi := ⟨_, _, _, _, _, _⟩) (v := ?vap14900q4n4) rfl (by kernel_rfl) (by kernel_rfl) (by kernel_rfl) (fun _ _ _ h => h) (Or.inl ⟨by rfl, ?hap14900q4n4⟩) (by assumption) ?_
          case hap14900q4n4 => (intro w hSw; (try dsimp only at hSw); go_simp; try with_reducible rfl)
          try simp only [Act.put, List.setIfInBounds_toArray, List.set_cons_zero, List.set_cons_succ]
          refine wpAnyH_ready (rs := [5]) (by kernel_rfl) (by simp) ?_
          refine AllReadyH.cons (o := ⟨_, _, _, _, _, _⟩) rfl (fun K hK => ?_) AllReadyH.nil
          go_simp
          rw [HMN.out]
          go_at_call 69
          refine (HCL.out w11 _ _ _ HC11.out HLEN.out).mono ?_
          rintro e w12 ⟨rfl, vo12, vw12, hC12, hE12⟩
          have HC12 := Lib.hid hC12
          have HE12 := Lib.hid (HER11.out.trans hE12)
          have hS12 : EachS w12 n wr.heap.size cx cy dn := EachS.of hC12.cr ((hE12.1 _ (lt_of_block HKD11.out) (by have := HC11.out.pl.c; have := HOW.out.1; omega) (by have := HOW.out.1; omega) (fun e => by have := HOW.out.2.2 _ e; omega) HOB.out.2).trans HKD11.out)
          clear hC12 hE12
          refine hK.out _ _ (by first | exact hS12 | exact hS11) (fun hHeld => ?_)
          clear hK K
          try simp only [Act.put, List.setIfInBounds_toArray, List.set_cons_zero, List.set_cons_succ]
          refine wpAnyH_done (by kernel_rfl) ?_ _
          obtain ⟨g4, k4, hv12, l1, l2, HPOP⟩ := HC12.out.pop
          subst hv12
          unfold maxLen at l2
          have f4 : w12.cell? ⟨n + 2, 0, none⟩ = some (.slice (some ⟨g4, 0, none⟩) (hd.length + 1) k4) := cell_of_one HC12.out.cw
          have fz4 := free_of_one HC12.out.cw
          have HEF2 := Lib.hid (HEF.out.trans (HE12.out.trans (EFL.cellw (n0 := n0) (n := n) (vw1 := .slice (some ⟨g4, 0, none⟩) hd.length k4) (.slice (some ⟨g4, 0, none⟩) hd.length k4) rfl)))
          have hh1 : IntKind.i64.wrap ((hd.length : Int) + 1 - 1) = (hd.length : Int) := by rw [IntWalk.i64_in _ (by omega)]; omega
          have hh2 : (hd.length : Int) + 1 - 1 = (hd.length : Int) := by omega
          have HFIN : Hid (xs (j + 1) = lstE d (minN s m) (hd ++ [(cx, cy, dn)]) (xs j)) := by unfold Hid; rw [HXJ.out, HNF.out]; rfl
          rw [← HFIN.out] at HPOP
          clear HFIN
          go_wp2_with fail
          go_roundw
          case rel => exact ⟨j + 1, _, _, by omega, by go_num, HPOP, HEF2⟩
          case measure => simp [intOf]; omega
    · have ht : decide ((j : Int) < 2) = false := by simp only [decide_eq_false_iff_not]; omega
      obtain rfl : j = 2 := by omega
      go_wp2_with fail
      go_end0
      exact ⟨rfl, _, _, HC.out, HE0.out.trans HEF.out⟩
end Go.Proofs.YtehnbalbpfmijaaGreatDoor

namespace Go.Proofs.YtehnbalbpfmijaaGreatDoor
open Go.RowKit
set_option linter.unusedVariables false

theorem count_any (T : Nat) (hT : T < 18446744073709551616) (w : World) :
    Calls Tryz.prog 68 #[.int .u64 (T : Int)] w fun e w' => e = .returned (.int .i64 (profZ T)) ∧ Below w.heap.size w w' := by
  obtain ⟨res, HRES⟩ : ∃ r, Hid (profZ T = r) := ⟨_, rfl⟩
  have HP := Lib.hid (profile_any T hT w)
  rw [HRES.out] at HP ⊢
  go_enter Tryz.func68, Tryz.ntmps68
  go_wp2_with fail
  refine HP.out.mono ?_
  rintro e w1 ⟨rfl, hb1⟩
  go_wp2_with fail
  go_ret
  exact ⟨rfl, hb1⟩
/-- What CountTilings returns. -/
def cntZ9 (zs : List Int) : Int := if regOkB zs then profZ (setZ zs) else 0
theorem CountTilings_any (v : Value) (zs : List Int) (B : Nat) (w : World) (h : RdI w B v zs) (hB : B ≤ w.heap.size) :
    Calls Tryz.prog 38 #[.agg #[v]] w fun e w' => e = .returned (.int .i64 (cntZ9 zs)) ∧ Below w.heap.size w w' := by
  have hb0 : Below w.heap.size w (w.alloc (.cells #[v] 35)) := (Below.refl _ _).alloc (Nat.le_refl _) _
  have HR := Lib.hid (h.below (hb0.mono hB))
  have hn := heap_alloc_new w (.cells #[v] 35)
  have hc : (w.alloc (.cells #[v] 35)).cell? ⟨w.heap.size, 0, none⟩ = some v := by rw [blk_cell hn]; rfl
  have hB2 : B ≤ (w.alloc (.cells #[v] 35)).heap.size := Nat.le_trans hB hb0.size
  have HB2 := Lib.hid hB2
  have HB0 := Lib.hid hb0
  obtain ⟨A, c, rfl, _, g2, _⟩ := id h
  unfold maxLen at g2
  cases hok : regOkB zs
  · have e0 : cntZ9 zs = 0 := by simp [cntZ9, hok]
    rw [e0]
    clear e0 hn hB2 hb0 h
    go_enter Tryz.func38, Tryz.ntmps38
    go_wp2_with fail
    generalize w.alloc (.cells #[.slice A zs.length c] 35) = W at *
    refine (RegionOk_any _ zs B W HR.out HB2.out).mono ?_
    rintro e w1 ⟨rfl, hb1⟩
    rw [hok]
    go_wp2_with fail
    go_ret
    exact ⟨rfl, HB0.out.trans (hb1.mono HB0.out.size)⟩
  · obtain ⟨res, HRES⟩ : ∃ r, Hid (cntZ9 zs = r) := ⟨_, rfl⟩
    have HE : Hid (profZ (setZ zs) = res) := by unfold Hid; rw [← HRES.out]; simp [cntZ9, hok]
    rw [HRES.out]
    have HL := Lib.hid (setZ_lt hok)
    clear HRES hn hB2 hb0 h
    go_enter Tryz.func38, Tryz.ntmps38
    go_wp2_with fail
    generalize w.alloc (.cells #[.slice A zs.length c] 35) = W at *
    refine (RegionOk_any _ zs B W HR.out HB2.out).mono ?_
    rintro e w1 ⟨rfl, hb1⟩
    rw [hok]
    have hc1 : w1.cell? ⟨w.heap.size, 0, none⟩ = some (.slice A zs.length c) := (hb1.cell (p := ⟨w.heap.size, 0, none⟩) (by
      by_cases hlt : w.heap.size < W.heap.size
      · exact hlt
      · rw [World.cell?, Array.getElem?_eq_none (by simpa using hlt)] at hc; simp at hc)).trans hc
    have HB1 := Lib.hid (HB0.out.trans (hb1.mono HB0.out.size))
    have HR1 := Lib.hid (HR.out.below (hb1.mono HB2.out))
    have HB21 := Lib.hid (Nat.le_trans HB2.out hb1.size)
    clear hc hb1
    go_wp2_with fail
    refine (rset_any _ zs B w1 HR1.out HB21.out hok).mono ?_
    rintro e w2 ⟨rfl, hb2⟩
    have HB3 := Lib.hid (HB1.out.trans (hb2.mono HB1.out.size))
    clear hc1 hb2
    have HC := Lib.hid (count_any (setZ zs) HL.out w2)
    rw [HE.out] at HC
    go_wp2_with fail
    refine HC.out.mono ?_
    rintro e w3 ⟨rfl, hb3⟩
    go_wp2_with fail
    go_ret
    exact ⟨rfl, HB3.out.trans (hb3.mono HB3.out.size)⟩
end Go.Proofs.YtehnbalbpfmijaaGreatDoor

namespace Go.Proofs.YtehnbalbpfmijaaGreatDoor
open Go.RowKit
set_option linter.unusedVariables false

theorem eachl_all (w0 : World) (n0 o0 lo n : Nat) : ∀ (d s : Nat) (hd : List Lk), bitsN s < d → s < 18446744073709551616 → hd.length + bitsN s ≤ 100 → EachAtL w0 n0 o0 lo n d s hd
  | 0, s, hd, h, _, _ => absurd h (by omega)
  | d + 1, s, hd, h, hl, hh => by
    by_cases hs : s = 0
    · subst hs; exact eachl_end w0 n0 o0 lo n d hd (by omega)
    · refine eachl_step w0 n0 o0 lo n d s hd hs hl (by omega) fun dn hf => ?_
      have h1 := bits_less hs hl hf
      exact eachl_all w0 n0 o0 lo n d _ _ (by omega) (minN_lt _ _ hl) (by simp; omega)

/-- What each leaves behind. -/
def EachResL (W0 : World) (n0 o0 lo n : Nat) (os : List (List Lk)) (e : Ending) (w' : World) : Prop := e = .returned (.tuple #[]) ∧ ∃ vo' vw', CL W0 w' n0 o0 lo n os vo' vw' []
set_option maxRecDepth 100000 in
set_option maxHeartbeats 4000000 in
theorem eachLF_any (n0 o0 s : Nat) (w : World) (hs : s < 18446744073709551616) (hb : bitsN s ≤ 60) (h0 : w.heap[n0]? = some (.cells #[.slice (some ⟨o0, 0, none⟩) 0 0] 47 (0, 0))) (h1 : w.heap[o0]? = some (.cells #[] 24 (0, 0)))
    (hne : n0 ≠ o0) (W0 : World) (hW : Below W0.heap.size W0 w) (hn : W0.heap.size ≤ n0) (ho : W0.heap.size ≤ o0) (hO : (lstE 61 s [] []).length ≤ 1000000) :
    Calls Tryz.prog 40 #[.int .u64 (s : Int), cbL n0] w (EachResL W0 n0 o0 W0.heap.size w.heap.size (lstE 61 s [] [])) := by
  have hmf : ∀ (fn : Fn) (first cap : Array Value) (w : World), (Instr.makeFunc fn first cap).run Tryz.prog w = .ok (.func fn first cap) w := fun _ _ _ _ => rfl
  have HALL := Lib.hid (eachl_all W0 n0 o0 W0.heap.size w.heap.size 61 s [] (by omega) hs (by simp; omega))
  have HPL : Hid (LPl n0 o0 W0.heap.size w.heap.size) := ⟨hn, ho, lt_of_block h0, lt_of_block h1, hne⟩
  obtain ⟨z, HZ⟩ : ∃ z, Hid (lstE 61 s [] [] = z) := ⟨_, rfl⟩
  rw [HZ.out]
  have HEA : Hid (∀ wr vo vw, CL W0 wr n0 o0 W0.heap.size w.heap.size [] vo vw [] → Calls Tryz.prog 69 #[.int .u64 (s : Int), .pointer (some ⟨w.heap.size, 0, none⟩), .pointer (some ⟨w.heap.size + 2, 0, none⟩), .pointer (some ⟨w.heap.size + 3, 0, none⟩)] wr (EPostL W0 wr n0 o0 W0.heap.size w.heap.size z vo vw [])) := fun wr vo vw h => by rw [← HZ.out]; exact HALL.out wr [] vo vw h hO
  clear HALL HZ hO
  obtain ⟨W4, hW4, q0, q1, q2, q3, hb4⟩ := four_alloc w (.cells #[cbL n0] 71) (.cells #[] 51) (.cells #[.slice (some ⟨w.heap.size + 1, 0, none⟩) 0 0] 24) (.cells #[reV w.heap.size] 96)
  have HCF : Hid (CL W0 W4 n0 o0 W0.heap.size w.heap.size [] (.slice (some ⟨o0, 0, none⟩) 0 0) (.slice (some ⟨w.heap.size + 1, 0, none⟩) 0 0) []) := by
    have hw := hW.trans (hb4.mono hW.size)
    have hsz := lt_of_block q3
    refine ⟨HPL.out, q0, q3, w.heap.size + 4, [], blk_below h0 hb4, q2, ⟨⟨by simp, .inr ⟨_, 0, #[], rfl, ho, blk_below h1 hb4, Nat.le_refl _, by simp [maxLen], by simp, by simp⟩⟩, hw, Nat.le_refl _, hw.size⟩, ⟨⟨by simp, .inr ⟨_, 0, #[], rfl, ?_, q1, Nat.le_refl _, by simp [maxLen], by simp, by simp⟩⟩, hw, Nat.le_refl _, hw.size⟩, ElsP.nil _ _ _ _, Nat.le_refl _, by omega, fun g hg => ?_, fun g hg => ?_, fun g hg e => ?_⟩
    · show W0.heap.size ≤ w.heap.size + 1
      have := hW.size; omega
    · simp only [Value.ownBlock, Option.some.injEq] at hg; exact .inl hg.symm
    · simp only [Value.ownBlock, Option.some.injEq] at hg; exact .inl hg.symm
    · simp only [Value.ownBlock, Option.some.injEq] at hg e
      have := lt_of_block h1; omega
  have HWW := Lib.hid hW4
  clear h0 h1 q0 q1 q2 q3 hb4 hW hW4 hn ho
  go_enter Tryz.func40, Tryz.ntmps40
  go_wp2_with fail
  have hww : W4 = (((w.alloc (.cells #[cbL n0] 71)).alloc (.cells #[] 51)).alloc (.cells #[.slice (some ⟨w.heap.size + 1, 0, none⟩) 0 0] 24)).alloc (.cells #[.func (.func 69) #[] #[.pointer (some ⟨w.heap.size, 0, none⟩), .pointer (some ⟨w.heap.size + 1 + 1, 0, none⟩), .pointer (some ⟨w.heap.size + 1 + 1 + 1, 0, none⟩)]] 96) := HWW.out
  rw [← hww]
  refine (HEA.out W4 _ _ HCF.out).mono ?_
  rintro e w5 ⟨rfl, vo5, vw5, h5, _⟩
  have H5 := Lib.hid h5
  clear h5 hww HWW HCF HEA
  go_wp2_with fail
  go_end0
  exact ⟨rfl, _, _, H5.out⟩

set_option maxRecDepth 100000 in
set_option maxHeartbeats 4000000 in
theorem ListTilings_yes (v : Value) (zs : List Int) (B : Nat) (w : World) (h : RdI w B v zs) (hB : B ≤ w.heap.size) (hok : regOkB zs = true) (hb : bitsN (setZ zs) ≤ 60) (hc : 1 ≤ profZ (setZ zs) ∧ profZ (setZ zs) ≤ 300) (hO : (lstE 61 (setZ zs) [] []).length ≤ 1000000) :
    Calls Tryz.prog 21 #[.agg #[v]] w (RetN (kdF elDomino) eDD w (lstE 61 (setZ zs) [] [])) := by
  have hmf : ∀ (fn : Fn) (first cap : Array Value) (w : World), (Instr.makeFunc fn first cap).run Tryz.prog w = .ok (.func fn first cap) w := fun _ _ _ _ => rfl
  have hin : inB (profZ (setZ zs)) 1 300 = true := by rw [inB_iff]; exact hc
  have HU := Lib.hid h
  have HOK := Lib.hid hok
  have HSL := Lib.hid (setZ_lt hok)
  have HCT := Lib.hid (fun V (hV : Below w.heap.size w V) => CountTilings_any v zs B V (h.below (hV.mono hB)) (Nat.le_trans hB hV.size))
  have HRS := Lib.hid (fun V (hV : Below w.heap.size w V) => rset_any v zs B V (h.below (hV.mono hB)) (Nat.le_trans hB hV.size) hok)
  obtain ⟨A, c, rfl, g1, g2, _⟩ := h
  unfold maxLen at g2
  have hcz : cntZ9 zs = profZ (setZ zs) := by simp [cntZ9, hok]
  have HCZ := Lib.hid hcz
  clear hcz
  obtain ⟨z, HZ⟩ : ∃ z, Hid (lstE 61 (setZ zs) [] [] = z) := ⟨_, rfl⟩
  have HEA : Hid (∀ (n0 o0 : Nat) (V : World), V.heap[n0]? = some (.cells #[.slice (some ⟨o0, 0, none⟩) 0 0] 47 (0, 0)) → V.heap[o0]? = some (.cells #[] 24 (0, 0)) → n0 ≠ o0 → Below w.heap.size w V → w.heap.size ≤ n0 → w.heap.size ≤ o0 →
      Calls Tryz.prog 40 #[.int .u64 (setZ zs : Nat), cbL n0] V (EachResL w n0 o0 w.heap.size V.heap.size z)) := fun n0 o0 V k1 k2 k3 k4 k5 k6 => by
    rw [← HZ.out]; exact eachLF_any n0 o0 _ V HSL.out hb k1 k2 k3 w k4 k5 k6 hO
  rw [HZ.out]
  clear HZ hO hb hc hok HOK
  generalize setZ zs = s at *
  generalize profZ s = p at *
  obtain ⟨W, hW, k1, hb1⟩ := one_alloc w (.cells #[.slice A zs.length c] 35)
  have c0 : W.cell? ⟨w.heap.size, 0, none⟩ = some (.slice A zs.length c) := by rw [blk_cell k1]; rfl
  have HK1 := Lib.hid k1
  have HB1 := Lib.hid hb1
  go_enter Tryz.func21, Tryz.ntmps21
  go_upto_region 1 with (fail)
  rw [← hW]
  clear hW k1 hb1
  go_wp2_with fail
  refine (HCT.out W HB1.out).mono ?_
  rintro e w2 ⟨rfl, hb2⟩
  rw [HCZ.out]
  have HB2 := Lib.hid (HB1.out.trans (hb2.mono HB1.out.size))
  have HK2 := Lib.hid (blk_below HK1.out hb2)
  clear hb2 c0
  go_wp2_with fail
  refine (within_any _ _ _ _).mono ?_
  rintro e w3 ⟨rfl, rfl⟩
  rw [hin]
  obtain ⟨W4, hW4, q0, q1, hb4⟩ := two_alloc w2 (.cells #[] 24) (.cells #[.slice (some ⟨w2.heap.size, 0, none⟩) 0 0] 47)
  have HB4 := Lib.hid (HB2.out.trans (hb4.mono HB2.out.size))
  have HK4 := Lib.hid (blk_below HK2.out hb4)
  have c4 : W4.cell? ⟨w.heap.size, 0, none⟩ = some (.slice A zs.length c) := by rw [blk_cell HK4.out]; rfl
  have HQ0 := Lib.hid q0; have HQ1 := Lib.hid q1
  have HW4 := Lib.hid hW4
  rw [hW4] at c4
  clear hW4 q0 q1 hb4
  go_wp2_with fail
  rw [← HW4.out]
  refine (HRS.out W4 HB4.out).mono ?_
  rintro e w5 ⟨rfl, hb5⟩
  have HB5 := Lib.hid (HB4.out.trans (hb5.mono HB4.out.size))
  have HE := Lib.hid (HEA.out (w2.heap.size + 1) w2.heap.size w5 (blk_below HQ1.out hb5) (blk_below HQ0.out hb5) (by omega) HB5.out (by have := HB2.out.size; omega) HB2.out.size)
  clear hb5 c4
  go_wp2_with fail
  refine HE.out.mono ?_
  rintro e w6 ⟨rfl, vo6, vw6, h6⟩
  obtain ⟨ho6, ss6, hT6⟩ := h6.ts
  obtain ⟨A6, c6, rfl, _, _⟩ := hT6.leno okDD
  have f6 : w6.cell? ⟨w2.heap.size + 1, 0, none⟩ = some (.slice A6 ss6.length c6) := hT6.cello
  have HN := Lib.hid hT6.nrel
  have HLO : Hid (w.heap.size ≤ w5.heap.size) := HB5.out.size
  clear hT6 h6
  go_wp2_with fail
  go_ret
  obtain ⟨ss8, hA8, hE8, hs8⟩ := HN.out
  exact ⟨_, _, rfl, ss8, ⟨hA8.1, hA8.2.1, Nat.le_refl _, hA8.2.2.2⟩, hE8.more (by have := HLO.out; show w.heap.size ≤ w5.heap.size + 4; omega) (Nat.le_refl _), hs8⟩
end Go.Proofs.YtehnbalbpfmijaaGreatDoor
