/- The contract of TreeMatrix of the reference. -/
import Derived.Test.YtpefpllokhbkiaaTreeM
import Derived.StillTailTactics
namespace Go.Proofs.Ytpefpllokhbkiaa
open Go.RowKit

theorem OwnD.rd {w : World} {lo : Nat} {v : Value} {zss : List (List Int)} (h : OwnD w lo v zss) : RdII w w.heap.size v zss := by
  obtain ⟨vs, h1, h2, _⟩ := h
  have hl : vs.length = zss.length := by have := h1.1; omega
  rcases h1.2 with ⟨rfl, h0⟩ | ⟨g, cap, cur, rfl, hb, hh, hn, hm, hs, ht⟩
  · have e : zss = [] := List.eq_nil_of_length_eq_zero h0
    subst e
    have e2 : vs = [] := List.eq_nil_of_length_eq_zero hl
    subst e2
    exact ⟨none, 0, [], rfl, Nat.le_refl _, Nat.zero_le _, rfl, Rd.nil, fun i u hu => by simp at hu⟩
  · exact ⟨some ⟨g, 0, none⟩, cap, vs, rfl, hn, hm, hl, fun _ => ⟨_, rfl, (World.ownsRow.lt h1 g rfl).2, World.ownsRow.cells h1 rfl⟩, fun i u hu => (h2 i u hu).rd⟩
/-- Rows come back that read so; nothing that was there has turned. -/
def RetRdII (w : World) (zss : List (List Int)) (e : Ending) (w' : World) : Prop := ∃ v, e = .returned v ∧ RdII w' w'.heap.size v zss ∧ Below w.heap.size w w'

set_option maxHeartbeats 8000000 in
set_option maxRecDepth 100000 in
theorem specTreeMatrix_yes (n m : Nat) (w : World) (hg : gridB n m = true) :
    Calls Try.prog 44 #[.int .i64 n, .int .i64 m] w (RetRdII w (treeZ n m)) := by
  obtain ⟨⟨hn1, hn2⟩, hm1, hm2⟩ := (gridB_iff _ _).1 hg
  obtain ⟨hlk, _⟩ := tree_facts n m hg
  have hnm : n * m ≤ 16 := Nat.mul_le_mul (show n ≤ 4 by omega) (show m ≤ 4 by omega)
  have hpos : 0 < n * m := Nat.mul_pos (by omega) (by omega)
  have htz : treeZ n m = (linksZ n m).foldl (fun m l => stepS m (lkN n l)) (zeroM (n * m - 1)) := by rw [treeZ, if_pos hg]; rfl
  obtain ⟨K, hK⟩ : ∃ K, n * m = K + 1 := ⟨n * m - 1, by omega⟩
  rw [hK] at hlk htz hnm
  rw [Nat.add_sub_cancel] at htz
  have hw : IntKind.i64.wrap ((n : Int) * (m : Int)) = (K : Int) + 1 := by rw [← Int.natCast_mul, hK]; exact IntWalk.i64_in _ (by omega)
  have HLK := Lib.hid hlk; clear hlk
  clear hK hpos
  generalize hM : treeZ n m = M at *
  generalize hls : linksZ n m = ls at *
  have HLS := Lib.hid hls; clear hls
  have HMW := Lib.hid htz; clear htz hM
  have HMS := Lib.hid (MRel.start w)
  have hmk := run_make_row' (P := Try.prog) 32 3 (.int .i64 0) 8 Try.underlying32 infoInt rfl .i64 .i64 K (by omega) (by omega)
  go_enter Try.func44, Try.ntmps44
  go_wp2_with fail
  refine (specGridOk_any _ _ _).mono ?_
  rintro e w1 ⟨rfl, hw1⟩
  subst hw1
  rw [hg]
  go_wp2_with fail
  go_loopw [5, 7] (fun o s wr => ∃ (k hi : Nat) (v : Value) (zss : List (List Int)), k ≤ K ∧ s = .int .i64 ((k : Int) + 1) ∧ o = v ∧ Hid (MRel w wr hi v zss) ∧ Hid (zss = List.replicate k (List.replicate K 0)) ∧ zss.length ≤ k) (fun _ s _ => (K + 1) - (intOf s).toNat)
  case atStart => exact ⟨0, _, _, [], Nat.zero_le _, rfl, rfl, HMS, rfl, Nat.le_refl _⟩
  case round =>
    obtain ⟨k, hi, v, zss, hk, rfl, rfl, HR, HZ, hzl⟩ := hrel
    by_cases hlt : k < K
    · have ht : decide ((k : Int) + 1 < (K : Int) + 1) = true := by simp only [decide_eq_true_eq]; omega
      have hk0 : (0 : Int) ≤ (k : Int) := by omega
      have hk1 : (k : Int) < (K : Int) := by omega
      have HU := Lib.hid (RowRel.made HR.out K (by omega))
      go_wp2_with (at_builtin; refine wpList_pushRow rfl _ _ rfl HU.out rfl _ rfl (by simp) (by omega) ?_; intro v2 w2 HR2 HB2)
      go_roundw
      case rel => exact ⟨k + 1, _, _, _, by omega, by go_num, rfl, HR2, (by unfold Hid; rw [HZ.out, List.replicate_succ']), by simp; omega⟩
      case measure => simp [intOf]; omega
    · have HZ2 : Hid (zss = zeroM K) := by unfold Hid; rw [HZ.out, show k = K by omega]; rfl
      have hkK : decide ((k : Int) + 1 < (K : Int) + 1) = false := by simp only [decide_eq_false_iff_not]; omega
      rw [HZ2.out] at HR
      clear HZ HZ2 hzl hmk
      by_cases hK0 : K = 0
      · subst hK0
        have hls : ls = [] := by
          cases ls with
          | nil => rfl
          | cons l t =>
            have := HLK.out l (List.mem_cons_self ..)
            obtain ⟨_, _, _, _, i5, i6, i7⟩ := (lkIn_iff _ _ _).1 this
            omega
        subst hls
        have HM9 : Hid (zeroM 0 = M) := HMW.out.symm
        go_wp2_with fail
        refine (specLinksOf_any _ _ _).mono ?_
        rintro e w2 ⟨v2, rfl, ho2, hb2⟩
        rw [HLS.out] at ho2
        obtain ⟨A, c, e2, hl1, hl2, _⟩ := RdT.of (E := elLink) rfl (fun _ => rfl) (ho2.rd okLink)
        subst e2
        have HR7 := Lib.hid (HR.out.below hb2)
        go_wp2_with fail
        go_loopw [9] (fun s wr' => s = .int .i64 0 ∧ wr' = w2) (fun _ _ => 0)
        case atStart => exact ⟨rfl, rfl⟩
        case round =>
          obtain ⟨rfl, rfl⟩ := hrel
          go_wp2_with fail
          go_ret
          exact ⟨_, rfl, by rw [← HM9.out]; exact HR7.out.1.rd, HR7.out.2.1⟩
      · obtain ⟨g, cap, rfl, hc1, hc2, hd⟩ := HR.out.mat (zeroM_shape K) (by omega)
        have HD := Lib.hid hd
        clear hd HR
        go_wp2_with fail
        refine (specLinksOf_any _ _ _).mono ?_
        rintro e w2 ⟨v2, rfl, ho2, hb2⟩
        rw [HLS.out] at ho2
        obtain ⟨A, c, e2, hl1, hl2, _⟩ := RdT.of (E := elLink) rfl (fun _ => rfl) (ho2.rd okLink)
        subst e2
        unfold maxLen at hl2
        obtain ⟨B0, HD2⟩ : ∃ B0, Hid (DLk w w2 g cap K (zeroM K) B0 (.slice A ls.length c) ls) := ⟨_, HD.out.below hb2, ho2⟩
        clear HD ho2 hb2
        have HF0 : Hid (zeroM K = (ls.take 0).foldl (fun m l => stepS m (lkN n l)) (zeroM K)) := rfl
        go_wp2_with fail
        go_loopw [9] (fun s wr' => ∃ (k : Nat) (mm : List (List Int)), k ≤ ls.length ∧ s = .int .i64 k ∧ Hid (DLk w wr' g cap K mm B0 (.slice A ls.length c) ls) ∧ Hid (mm = (ls.take k).foldl (fun m l => stepS m (lkN n l)) (zeroM K))) (fun s _ => ls.length - (intOf s).toNat)
        case atStart => exact ⟨0, _, Nat.zero_le _, rfl, HD2, HF0⟩
        case round =>
          obtain ⟨k2, mm, hk2, rfl, HD3, HF⟩ := hrel
          by_cases hlt2 : k2 < ls.length
          · have hk20 : (0 : Int) ≤ (k2 : Int) := by omega
            have ht2 : (k2 : Int) < (ls.length : Int) := by omega
            obtain ⟨ad, rfl, had, hx, hy, hz⟩ := HD3.out.link hlt2
            have hin := HLK.out _ (List.getElem_mem hlt2)
            have HST : Hid ((ls.take (k2 + 1)).foldl (fun m l => stepS m (lkN n l)) (zeroM K) = stepS mm (lkN n (lx ls k2, ly ls k2, ld ls k2))) := by unfold Hid; rw [foldl_take _ _ _ _ hlt2, ← HF.out, lk_at _ _ hlt2]
            rw [lk_at _ _ hlt2] at hin
            generalize lx ls k2 = x at *
            generalize ly ls k2 = y at *
            generalize ld ls k2 = d at *
            obtain ⟨i1, i2, i3, i4, i5, i6, i7⟩ := (lkIn_iff _ _ _).1 hin
            obtain ⟨b, hb⟩ := Int.eq_ofNat_of_zero_le (show 0 ≤ postB n (x, y, d) - 1 by omega)
            have hb' : postB n (x, y, d) = (b : Int) + 1 := by omega
            have hbN : b < K := by omega
            have hbw : IntKind.i64.wrap ((b : Int) + 1 - 1) = (b : Int) := by rw [Int.add_sub_cancel]; exact IntWalk.i64_in _ (by omega)
            have hbw2 : IntKind.i64.wrap (b : Int) = (b : Int) := IntWalk.i64_in _ (by omega)
            have hb0 : (0 : Int) ≤ (b : Int) := by omega
            have hbK : (b : Int) < (K : Int) := by omega
            clear hb
            simp only at i1 i2 i3 i4
            by_cases ha0 : postA n (x, y, d) = 0
            · have HST2 : Hid (lkN n (x, y, d) = (0, b + 1)) := by unfold Hid lkN; rw [ha0, hb']; rfl
              have HA := Lib.hid ha0
              have HB := Lib.hid hb'
              clear ha0 hb' i5 i6 i7 hin
              go_wp2_with fail
              refine (l23Ends_any _ _ _ _ _ (by omega) (by omega) (by omega) (by omega) (by omega) (by omega)).mono ?_
              rintro e w3 ⟨rfl, hb3⟩
              rw [HA.out, HB.out]
              have HD4 := Lib.hid (HD3.out.below hb3)
              clear hb3 hx hy hz
              obtain ⟨g3, ca3, q1, q2, c1, c2, c3, HQ⟩ := HD4.out.at hbN hbN
              have HE8 := Lib.hid (HQ.out (wrap64 (elZ mm b b + 1)))
              clear HQ
              go_upto_region 18 with (fail)
              go_still_tail 18, (by kernel_rfl)
              change wpList _ _ _ _ _ w3.drew
              have HE8 : Hid (DLk w (w3.drew.setCell ⟨g3, b, none⟩ (.int .i64 (wrap64 (elZ mm b b + 1)))) g cap K (setM mm b b (wrap64 (elZ mm b b + 1))) B0 (.slice (some ad) ls.length c) ls) := HE8.out.below ((Below.refl _ _).drew)
              have c2' : w3.drew.cell? ⟨g3, b, none⟩ = some (.int .i64 (elZ mm b b)) := c2
              have c3' : w3.drew.frozen? ⟨g3, b, none⟩ = false := c3
              generalize w3.drew = w3d at *
              have HFN : Hid (setM mm b b (wrap64 (elZ mm b b + 1)) = (ls.take (k2 + 1)).foldl (fun m l => stepS m (lkN n l)) (zeroM K)) := by
                unfold Hid; rw [HST.out, HST2.out, stepS, if_neg (by simp)]
                rfl
              go_wp2_with fail
              go_roundw
              case rel => exact ⟨k2 + 1, _, by omega, by go_num, HE8, HFN⟩
              case measure => simp [intOf]; omega
            · obtain ⟨a, ha⟩ := Int.eq_ofNat_of_zero_le (show 0 ≤ postA n (x, y, d) - 1 by omega)
              have ha' : postA n (x, y, d) = (a : Int) + 1 := by omega
              have haN : a < K := by omega
              have haw : IntKind.i64.wrap ((a : Int) + 1 - 1) = (a : Int) := by rw [Int.add_sub_cancel]; exact IntWalk.i64_in _ (by omega)
              have haw2 : IntKind.i64.wrap (a : Int) = (a : Int) := IntWalk.i64_in _ (by omega)
              have ha0' : (0 : Int) ≤ (a : Int) := by omega
              have haK : (a : Int) < (K : Int) := by omega
              have HST2 : Hid (lkN n (x, y, d) = (a + 1, b + 1)) := by unfold Hid lkN; rw [ha', hb']; rfl
              have HA := Lib.hid ha'
              have HB := Lib.hid hb'
              clear ha ha' ha0 hb' i5 i6 i7 hin
              go_wp2_with fail
              refine (l23Ends_any _ _ _ _ _ (by omega) (by omega) (by omega) (by omega) (by omega) (by omega)).mono ?_
              rintro e w3 ⟨rfl, hb3⟩
              rw [HA.out, HB.out]
              have HD4 := Lib.hid (HD3.out.below hb3)
              clear hb3 hx hy hz
              have hag : decide ((a : Int) + 1 > 0) = true := by simp only [decide_eq_true_eq]; omega
              obtain ⟨g0, ca0, q1, q2, c1, c2, c3, HQ⟩ := HD4.out.at haN haN
              have HE5 := Lib.hid (HQ.out (wrap64 (elZ mm a a + 1)))
              clear HQ
              go_upto_region 15 with (fail)
              go_still_tail 18, (by kernel_rfl)
              change wpList _ _ _ _ _ w3.drew
              have HE5 : Hid (DLk w (w3.drew.setCell ⟨g0, a, none⟩ (.int .i64 (wrap64 (elZ mm a a + 1)))) g cap K (setM mm a a (wrap64 (elZ mm a a + 1))) B0 (.slice (some ad) ls.length c) ls) := HE5.out.below ((Below.refl _ _).drew)
              have c2' : w3.drew.cell? ⟨g0, a, none⟩ = some (.int .i64 (elZ mm a a)) := c2
              have c3' : w3.drew.frozen? ⟨g0, a, none⟩ = false := c3
              generalize w3.drew = w3d at *
              go_upto_region 16 with (fail)
              obtain ⟨w4, HW0⟩ : ∃ x, Hid (x = w3d.setCell ⟨g0, a, none⟩ (.int .i64 (wrap64 (elZ mm a a + 1)))) := ⟨_, rfl⟩
              rw [← HW0.out] at HE5
              have hww := HW0.out
              rw [← hww]
              clear hww c1 c2 c3 q1 q2
              obtain ⟨m1, HM0⟩ : ∃ x, Hid (x = incM mm a a 1) := ⟨_, rfl⟩
              have hmm : setM mm a a (wrap64 (elZ mm a a + 1)) = m1 := HM0.out.symm
              rw [hmm] at HE5
              clear hmm
              obtain ⟨g1, ca1, q1, q2, c1, c2, c3, HQ⟩ := HE5.out.at haN hbN
              have HE6 := Lib.hid (HQ.out (-1))
              clear HQ
              go_upto_region 17 with (fail)
              obtain ⟨w5, HW1⟩ : ∃ x, Hid (x = w4.setCell ⟨g1, b, none⟩ (.int .i64 (-1))) := ⟨_, rfl⟩
              rw [← HW1.out] at HE6
              have hww := HW1.out
              rw [← hww]
              clear hww c1 c2 c3 q1 q2
              obtain ⟨m2, HM1⟩ : ∃ x, Hid (x = setM m1 a b (-1)) := ⟨_, rfl⟩
              have hmm : setM m1 a b (-1) = m2 := HM1.out.symm
              rw [hmm] at HE6
              clear hmm
              obtain ⟨g2, ca2, q1, q2, c1, c2, c3, HQ⟩ := HE6.out.at hbN haN
              have HE7 := Lib.hid (HQ.out (-1))
              clear HQ
              go_upto_region 18 with (fail)
              obtain ⟨w6, HW2⟩ : ∃ x, Hid (x = w5.setCell ⟨g2, a, none⟩ (.int .i64 (-1))) := ⟨_, rfl⟩
              rw [← HW2.out] at HE7
              have hww := HW2.out
              rw [← hww]
              clear hww c1 c2 c3 q1 q2
              obtain ⟨m3, HM2⟩ : ∃ x, Hid (x = setM m2 b a (-1)) := ⟨_, rfl⟩
              have hmm : setM m2 b a (-1) = m3 := HM2.out.symm
              rw [hmm] at HE7
              clear hmm
              obtain ⟨g3, ca3, q1, q2, c1, c2, c3, HQ⟩ := HE7.out.at hbN hbN
              have HE8 := Lib.hid (HQ.out (wrap64 (elZ m3 b b + 1)))
              clear HQ
              go_upto_region 18 with (fail)
              go_still_tail 18, (by kernel_rfl)
              change wpList _ _ _ _ _ w6.drew
              have HE8 : Hid (DLk w (w6.drew.setCell ⟨g3, b, none⟩ (.int .i64 (wrap64 (elZ m3 b b + 1)))) g cap K (setM m3 b b (wrap64 (elZ m3 b b + 1))) B0 (.slice (some ad) ls.length c) ls) := HE8.out.below ((Below.refl _ _).drew)
              have c2' : w6.drew.cell? ⟨g3, b, none⟩ = some (.int .i64 (elZ m3 b b)) := c2
              have c3' : w6.drew.frozen? ⟨g3, b, none⟩ = false := c3
              generalize w6.drew = w6d at *
              have HFN : Hid (setM m3 b b (wrap64 (elZ m3 b b + 1)) = (ls.take (k2 + 1)).foldl (fun m l => stepS m (lkN n l)) (zeroM K)) := by
                unfold Hid; rw [HST.out, HST2.out, stepS, if_pos (by simp)]
                show _ = incM (setM (setM (incM mm a a 1) a b (-1)) b a (-1)) b b 1
                rw [← HM0.out, ← HM1.out, ← HM2.out]; rfl
              go_wp2_with fail
              go_roundw
              case rel => exact ⟨k2 + 1, _, by omega, by go_num, HE8, HFN⟩
              case measure => simp [intOf]; omega
          · have HF2 : Hid (mm = M) := by unfold Hid; rw [HF.out, List.take_of_length_le (by omega)]; exact HMW.out.symm
            go_wp2_with fail
            go_ret
            exact ⟨_, rfl, by rw [← HF2.out]; exact HD3.out.1.1.rd, HD3.out.1.2.1⟩
theorem specTreeMatrix_any (a b : Int) (w : World) :
    Calls Try.prog 44 #[.int .i64 a, .int .i64 b] w (RetRdII w (treeZ a b)) := by
  cases hg : gridB a b
  · have e0 : treeZ a b = [] := by simp [treeZ, hg]
    rw [e0]; clear e0
    have HMS := Lib.hid (MRel.start w)
    go_enter Try.func44, Try.ntmps44
    go_wp2_with fail
    refine (specGridOk_any _ _ _).mono ?_
    rintro e w1 ⟨rfl, hw1⟩
    subst hw1
    rw [hg]
    go_wp2_with fail
    go_ret
    exact ⟨_, rfl, HMS.out.1.rd, HMS.out.2.1⟩
  · have hb := (gridB_iff _ _).1 hg
    obtain ⟨n, rfl⟩ := Int.eq_ofNat_of_zero_le (show 0 ≤ a by omega)
    obtain ⟨m, rfl⟩ := Int.eq_ofNat_of_zero_le (show 0 ≤ b by omega)
    exact specTreeMatrix_yes n m w hg
end Go.Proofs.Ytpefpllokhbkiaa
