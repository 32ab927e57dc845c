/- Contracts of TreeMatrix of the program and of the reference. -/
import Derived.Test.YtiecphhenpapoaaTreeLaw
import Derived.Test.YtiecphhenpapoaaOwnM
import Derived.Deep.Cut
import Derived.Deep.DeepCutAuto
namespace Go.Proofs.Ytiecphhenpapoaa
open Go.RowKit

theorem lkIn_iff (w n : Nat) (l : Lk) : lkIn w n l = true ↔ 0 ≤ l.1 ∧ l.1 ≤ 4 ∧ 0 ≤ l.2.1 ∧ l.2.1 ≤ 4 ∧ 0 ≤ postA w l ∧ postA w l < postB w l ∧ postB w l < n := by simp [lkIn]
theorem lk_at (ls : List Lk) (k : Nat) (h : k < ls.length) : ls[k] = (lx ls k, ly ls k, ld ls k) := by have := lk_get ls k h; rw [List.getElem?_eq_getElem h] at this; exact Option.some.inj this
/-- A row without its first element. -/
theorem RdI.tail {w : World} {B g n ca : Nat} {zs : List Int} (hg : g < B) (hn : n = zs.length) (h1 : n ≤ ca) (h2 : ca ≤ maxLen) (hc : ∀ j, j < n → w.cell? ⟨g, j, none⟩ = some (.int .i64 (el zs j))) :
    RdI w B (.slice (some ⟨g, 1, none⟩) (zs.drop 1).length (ca - 1)) (zs.drop 1) := by
  refine ⟨_, _, rfl, by simp; omega, by unfold maxLen at *; omega, fun _ => ⟨_, rfl, hg, fun j u hu => ?_⟩⟩
  rw [List.getElem?_map, List.getElem?_drop] at hu
  obtain ⟨z, hz, rfl⟩ := Option.map_eq_some_iff.1 hu
  have hj : 1 + j < n := by have := (List.getElem?_eq_some_iff.1 hz).1; omega
  have := hc (1 + j) hj
  rw [el, List.getD_eq_getElem?_getD, hz] at this
  rw [show ((⟨g, 1, none⟩ : Addr).add j) = ⟨g, 1 + j, none⟩ by unfold Addr.add; split <;> simp_all]; exact this
theorem cutM_take (m : List (List Int)) (k : Nat) (h : k + 1 < m.length) : (cutM m).take (k + 1) = (cutM m).take k ++ [(rw' m (k + 1)).drop 1] := by
  have hl : k < (cutM m).length := by simp [cutM]; omega
  rw [List.take_succ_eq_append_getElem hl]
  congr 2
  simp [cutM, rw', h]

theorem DLk.link {w wr : World} {g cap n B c N : Nat} {m : List (List Int)} {A : Option Addr} {ls : List Lk} (h : DLk w wr g cap n m B (.slice A N c) ls) {k : Nat} (hk : k < ls.length) :
    ∃ ad, A = some ad ∧ ad.block < wr.heap.size ∧ wr.cell? (ad.add (k * 3)) = some (.int .i64 (lx ls k)) ∧
      wr.cell? ⟨(ad.add (k * 3)).block, (ad.add (k * 3)).off + 1, none⟩ = some (.int .i64 (ly ls k)) ∧ wr.cell? ⟨(ad.add (k * 3)).block, (ad.add (k * 3)).off + 2, none⟩ = some (.bool (ld ls k)) := by
  obtain ⟨A', c', e, _, _, G⟩ := RdT.of (E := elLink) rfl (fun _ => rfl) (h.2.rd okLink)
  obtain ⟨ad, h1, h2⟩ := G.out k hk
  simp only [Value.slice.injEq] at e
  exact ⟨ad, by rw [e.1, h1], h2⟩
theorem MRel.mat {w wr : World} {hi n : Nat} {v : Value} {m : List (List Int)} (h : MRel w wr hi v m) (hs : Shape n m) (hn : 0 < n) : ∃ g cap, v = .slice (some ⟨g, 0, none⟩) n cap ∧ n ≤ cap ∧ cap ≤ 9223372036854775807 ∧ DRel w wr g cap n m := by
  obtain ⟨vs, h1, h2⟩ := h.1
  obtain ⟨g, cap, hv, _, _⟩ := World.ownsRow.form h1 (by rw [hs.1]; exact hn)
  obtain ⟨A, c, e, q1, q2, _⟩ := h.1.rd.open_
  rw [hs.1] at hv e q1
  subst hv
  simp only [Value.slice.injEq] at e
  exact ⟨g, cap, rfl, by rw [e.2.2]; exact q1, by rw [e.2.2]; exact q2, h.1.d, h.2.1, hs⟩

set_option maxHeartbeats 8000000 in
set_option maxRecDepth 100000 in
theorem TreeMatrix_yes (n m : Nat) (w : World) (hg : gridB n m = true) :
    Calls Try.prog 33 #[.int .i64 n, .int .i64 m] w (RetM w (treeZ n m)) := by
  obtain ⟨⟨hn1, hn2⟩, hm1, hm2⟩ := (gridB_iff _ _).1 hg
  obtain ⟨hlk, htr⟩ := tree_facts n m hg
  have hnm : n * m ≤ 16 := Nat.mul_le_mul (show n ≤ 4 by omega) (show m ≤ 4 by omega)
  have hpos : 0 < n * m := Nat.mul_pos (by omega) (by omega)
  have HW : Hid (wholeT n m (linksZ n m) = (linksZ n m).foldl (fun m l => stepT m (lkN n l)) (zeroM (n * m))) := rfl
  have HPOS := Lib.hid hpos; clear hpos
  generalize hN : n * m = N at *
  have hw : IntKind.i64.wrap ((n : Int) * (m : Int)) = (N : Int) := by rw [← Int.natCast_mul, hN]; exact IntWalk.i64_in _ (by omega)
  have HTR := Lib.hid htr; clear htr
  have HLK := Lib.hid hlk; clear hlk
  have HN := Lib.hid hN; clear hN
  generalize hM : wholeT n m (linksZ n m) = M at *
  generalize hls : linksZ n m = ls at *
  have HLS := Lib.hid hls; clear hls
  have HMW := Lib.hid hM; clear hM
  have HMS := Lib.hid (MRel.start w)
  have hmk := run_make_row' (P := Try.prog) 32 3 (.int .i64 0) 8 Try.underlying32 infoInt rfl .i64 .i64 N (by omega) (by omega)
  go_enter Try.func33, Try.ntmps33
  go_wp2_with fail
  refine (GridOk_any _ _ _).mono ?_
  rintro e w1 ⟨rfl, rfl⟩
  rw [hg]
  go_wp2_with fail
  go_loopw [6, 23] (fun o s wr => ∃ (k hi : Nat) (v : Value) (zss : List (List Int)), k ≤ N ∧ s = .int .i64 k ∧ o = v ∧ Hid (MRel w wr hi v zss) ∧ Hid (zss = List.replicate k (List.replicate N 0)) ∧ zss.length ≤ k) (fun _ s _ => N - (intOf s).toNat)
  case atStart => exact ⟨0, _, _, [], Nat.zero_le _, rfl, rfl, HMS, rfl, Nat.le_refl _⟩
  case round =>
    obtain ⟨k, hi, v, zss, hk, rfl, rfl, HR, HZ, hzl⟩ := hrel
    by_cases hlt : k < N
    · have ht : decide ((k : Int) < (N : Int)) = true := by simp only [decide_eq_true_eq]; omega
      have HU := Lib.hid (RowRel.made HR.out N (by omega))
      go_wp2_with (at_builtin; refine wpList_pushRow rfl _ _ rfl HU.out rfl _ rfl (by simp) (by omega) ?_; intro v2 w2 HR2 HB2)
      go_roundw
      case rel => exact ⟨k + 1, _, _, _, by omega, by go_num, rfl, HR2, (by unfold Hid; rw [HZ.out, List.replicate_succ']), by simp; omega⟩
      case measure => simp [intOf]; omega
    · have HZ2 : Hid (zss = zeroM N) := by unfold Hid; rw [HZ.out, show k = N by omega]; rfl
      rw [HZ2.out] at HR
      clear HZ HZ2 hzl hmk
      obtain ⟨g, cap, rfl, hc1, hc2, hd⟩ := HR.out.mat (zeroM_shape N) HPOS.out
      have HD := Lib.hid hd
      clear hd HR
      go_wp2_with fail
      refine (LinksOf_any _ _ _).mono ?_
      rintro e w2 ⟨v2, rfl, ho2, hb2⟩
      rw [HLS.out] at ho2
      obtain ⟨A, c, e2, hl1, hl2, _⟩ := RdT.of (E := elLink) rfl (fun _ => rfl) (ho2.rd okLink)
      subst e2
      unfold maxLen at hl2
      obtain ⟨B0, HD2⟩ : ∃ B0, Hid (DLk w w2 g cap N (zeroM N) B0 (.slice A ls.length c) ls) := ⟨_, HD.out.below hb2, ho2⟩
      clear HD ho2 hb2
      have HF0 : Hid (zeroM N = (ls.take 0).foldl (fun m l => stepT m (lkN n l)) (zeroM N)) := rfl
      go_wp2_with fail
      go_loopw [35] (fun s wr' => ∃ (k : Nat) (mm : List (List Int)), k ≤ ls.length ∧ s = .int .i64 k ∧ Hid (DLk w wr' g cap N mm B0 (.slice A ls.length c) ls) ∧ Hid (mm = (ls.take k).foldl (fun m l => stepT m (lkN n l)) (zeroM N))) (fun s _ => ls.length - (intOf s).toNat)
      case atStart => exact ⟨0, _, Nat.zero_le _, rfl, HD2, HF0⟩
      case round =>
        obtain ⟨k2, mm, hk2, rfl, HD3, HF⟩ := hrel
        by_cases hlt2 : k2 < ls.length
        · have ht2 : decide ((k2 : Int) < (ls.length : Int)) = true := by simp only [decide_eq_true_eq]; omega
          obtain ⟨ad, rfl, had, hx, hy, hz⟩ := HD3.out.link hlt2
          have hin := HLK.out _ (List.getElem_mem hlt2)
          have HST : Hid ((ls.take (k2 + 1)).foldl (fun m l => stepT m (lkN n l)) (zeroM N) = stepT mm (lkN n (lx ls k2, ly ls k2, ld ls k2))) := by unfold Hid; rw [foldl_take _ _ _ _ hlt2, ← HF.out, lk_at _ _ hlt2]
          rw [lk_at _ _ hlt2] at hin
          generalize lx ls k2 = x at *
          generalize ly ls k2 = y at *
          generalize ld ls k2 = d at *
          obtain ⟨i1, i2, i3, i4, i5, i6, i7⟩ := (lkIn_iff _ _ _).1 hin
          obtain ⟨a, ha⟩ := Int.eq_ofNat_of_zero_le i5
          obtain ⟨b, hb⟩ := Int.eq_ofNat_of_zero_le (show 0 ≤ postB n (x, y, d) by omega)
          have hab : a < N ∧ b < N ∧ a < b := by rw [ha, hb] at i6; rw [hb] at i7; omega
          obtain ⟨haN, hbN, hab⟩ := hab
          have HST2 : Hid (lkN n (x, y, d) = (a, b)) := by unfold Hid lkN; rw [ha, hb]; rfl
          have HA := Lib.hid ha
          have HB := Lib.hid hb
          clear ha hb i5 i6 i7 hin
          simp only at i1 i2 i3 i4
          go_wp2_with fail
          refine (posts_any _ _ _ _ _ (by omega) (by omega) (by omega) (by omega) (by omega) (by omega)).mono ?_
          rintro e w3 ⟨rfl, hb3⟩
          rw [HA.out, HB.out]
          have HD4 : Hid (DLk w w3 g cap N mm B0 (.slice (some ad) ls.length c) ls) := by
            refine HD3.out.below (Below.trans ?_ (hb3.mono (by simp <;> omega)))
            repeat (first | exact Below.refl _ _ | refine Below.setCell ?_ (by simp <;> omega) _ | refine Below.alloc ?_ (by simp <;> omega) _)
          clear hb3 hx hy hz
          obtain ⟨g0, ca0, q1, q2, c1, c2, c3, HQ⟩ := HD4.out.at haN haN
          have HD5 := Lib.hid (HQ.out (wrap64 (elZ mm a a + 1)))
          clear HQ
          go_upto_region 14 with (fail)
          obtain ⟨w4, HW0⟩ : ∃ x, Hid (x = w3.setCell ⟨g0, a, none⟩ (.int .i64 (wrap64 (elZ mm a a + 1)))) := ⟨_, rfl⟩
          rw [← HW0.out] at HD5
          have hww := HW0.out
          rw [← hww]
          clear hww c1 c2 c3 q1 q2
          obtain ⟨m1, HM0⟩ : ∃ x, Hid (x = incM mm a a 1) := ⟨_, rfl⟩
          have hmm : setM mm a a (wrap64 (elZ mm a a + 1)) = m1 := HM0.out.symm
          rw [hmm] at HD5
          clear hmm
          obtain ⟨g1, ca1, q1, q2, c1, c2, c3, HQ⟩ := HD5.out.at hbN hbN
          have HD6 := Lib.hid (HQ.out (wrap64 (elZ m1 b b + 1)))
          clear HQ
          go_upto_region 15 with (fail)
          obtain ⟨w5, HW1⟩ : ∃ x, Hid (x = w4.setCell ⟨g1, b, none⟩ (.int .i64 (wrap64 (elZ m1 b b + 1)))) := ⟨_, rfl⟩
          rw [← HW1.out] at HD6
          have hww := HW1.out
          rw [← hww]
          clear hww c1 c2 c3 q1 q2
          obtain ⟨m2, HM1⟩ : ∃ x, Hid (x = incM m1 b b 1) := ⟨_, rfl⟩
          have hmm : setM m1 b b (wrap64 (elZ m1 b b + 1)) = m2 := HM1.out.symm
          rw [hmm] at HD6
          clear hmm
          obtain ⟨g2, ca2, q1, q2, c1, c2, c3, HQ⟩ := HD6.out.at haN hbN
          have HD7 := Lib.hid (HQ.out (wrap64 (elZ m2 a b - 1)))
          clear HQ
          go_upto_region 16 with (fail)
          obtain ⟨w6, HW2⟩ : ∃ x, Hid (x = w5.setCell ⟨g2, b, none⟩ (.int .i64 (wrap64 (elZ m2 a b - 1)))) := ⟨_, rfl⟩
          rw [← HW2.out] at HD7
          have hww := HW2.out
          rw [← hww]
          clear hww c1 c2 c3 q1 q2
          obtain ⟨m3, HM2⟩ : ∃ x, Hid (x = decM m2 a b) := ⟨_, rfl⟩
          have hmm : setM m2 a b (wrap64 (elZ m2 a b - 1)) = m3 := HM2.out.symm
          rw [hmm] at HD7
          clear hmm
          obtain ⟨g3, ca3, q1, q2, c1, c2, c3, HQ⟩ := HD7.out.at hbN haN
          have HD8 := Lib.hid (HQ.out (wrap64 (elZ m3 b a - 1)))
          clear HQ
          have HFN : Hid (setM m3 b a (wrap64 (elZ m3 b a - 1)) = (ls.take (k2 + 1)).foldl (fun m l => stepT m (lkN n l)) (zeroM N)) := by
            unfold Hid; rw [HST.out, HST2.out, stepT, ← HM0.out, ← HM1.out, ← HM2.out]; rfl
          go_wp2_with fail
          go_roundw
          case rel => exact ⟨k2 + 1, _, by omega, by go_num, HD8, HFN⟩
          case measure => simp [intOf]; omega
        · have HF2 : Hid (mm = M) := by unfold Hid; rw [HF.out, List.take_of_length_le (by omega)]; exact HW.out.symm
          rw [HF2.out] at HD3
          clear HF HF2 HF0 HD2
          obtain ⟨w9, rfl⟩ : ∃ x, x = wr := ⟨_, rfl⟩
          have HM3 := Lib.hid (MRel.start w9)
          rcases Nat.lt_or_ge 1 N with hN1 | hN1
          · have hcap : cap ≠ 1 := by omega
            have hcap' : 1 ≠ cap := by omega
            have HZ0 : Hid (([] : List (List Int)) = (cutM M).take 0) := rfl
            go_wp2_with fail
            go_loopw [11, 86] (fun o s wr => ∃ (k hi : Nat) (v : Value) (zss : List (List Int)), k ≤ N - 1 ∧ s = .int .i64 k ∧ o = v ∧ Hid (MRel w9 wr hi v zss) ∧ Hid (zss = (cutM M).take k) ∧ zss.length ≤ k) (fun _ s _ => (N - 1) - (intOf s).toNat)
            case atStart => exact ⟨0, _, _, [], Nat.zero_le _, rfl, rfl, HM3, HZ0, Nat.le_refl _⟩
            case round =>
              obtain ⟨k3, hi3, v3, zss3, hk3, rfl, rfl, HR3, HZ3, hzl3⟩ := hrel
              by_cases hlt3 : k3 < N - 1
              · have ht3 : decide ((k3 : Int) < ((N - 1 : Nat) : Int)) = true := by simp only [decide_eq_true_eq]; omega
                have hd := HD3.out.1.below HR3.out.2.1
                obtain ⟨gi, ci, r1, r2, r3, r4, r5, r6, r7, r8⟩ := hd.row (i := k3 + 1) (by omega)
                have hgi : gi < wr.heap.size := by obtain ⟨cur, e⟩ := r8; exact (Array.getElem?_eq_some_iff.1 e).1
                have hrl : (rw' M (k3 + 1)).length = N := hd.2.2.2 (k3 + 1) (by omega)
                have hcell : wr.cell? ((⟨g, 1, none⟩ : Addr).add k3) = some (.slice (some ⟨gi, 0, none⟩) N ci) := by
                  rw [show ((⟨g, 1, none⟩ : Addr).add k3) = ⟨g, k3 + 1, none⟩ by unfold Addr.add; split <;> simp_all <;> omega]; exact r1
                have hcell2 : wr.cell? ⟨g, 1 + k3, none⟩ = some (.slice (some ⟨gi, 0, none⟩) N ci) := by rw [Nat.add_comm]; exact r1
                have hu := RdI.tail hgi hrl.symm r3 r4 r5
                rw [List.length_drop, hrl] at hu
                have HU := Lib.hid hu
                have HT : Hid ((cutM M).take (k3 + 1) = zss3 ++ [(rw' M (k3 + 1)).drop 1]) := by unfold Hid; rw [HZ3.out]; exact cutM_take M k3 (by have := hd.2.2.1; omega)
                have HDL : Hid (((rw' M (k3 + 1)).drop 1).length ≤ 100) := by unfold Hid; rw [List.length_drop, hrl]; omega
                unfold maxLen at r4
                have hci : ci ≠ 1 := by omega
                have hci' : 1 ≠ ci := by omega
                clear hd r1 r2 r5 r6 r7 r8 hu hrl
                go_wp2_with fail
                generalize (rw' M (k3 + 1)).drop 1 = zs at *
                refine (copyOf_any _ zs _ _ HU.out (Nat.le_refl _) (by have := HDL.out; omega)).mono ?_
                rintro e w4 ⟨u4, rfl, ho4, hb4⟩
                have HR4 := Lib.hid (RowRel.ofCall HR3.out hb4 ho4)
                clear ho4
                obtain ⟨A4, c4, rfl, _, _, _⟩ := HR4.out.2.rd
                go_wp2_with (at_builtin; refine wpList_pushRow rfl _ _ rfl HR4.out rfl _ rfl (by simp) (by omega) ?_; intro v5 w5 HR5 HB5)
                go_roundw
                case rel => exact ⟨k3 + 1, _, _, _, by omega, by go_num, rfl, HR5, (by unfold Hid; rw [HT.out]), by simp; omega⟩
                case measure => simp [intOf]; omega
              · have HK : Hid (zss3 = treeZ n m) := by
                  have := HD3.out.1.2.2.1
                  unfold Hid; rw [HZ3.out, List.take_of_length_le (by simp [cutM]; omega)]; exact HTR.out
                have HR6 := Lib.hid (MRel.after HD3.out.1.2.1 HR3.out)
                have ht3 : decide ((k3 : Int) < ((N - 1 : Nat) : Int)) = false := by simp only [decide_eq_false_iff_not]; omega
                go_wp2_with fail
                go_ret
                exact ⟨_, hi3, rfl, by rw [← HK.out]; exact HR6.out.1, HR6.out.2.2.1, HR6.out.2.1⟩
          · obtain rfl : N = 1 := by have := HPOS.out; omega
            have HK : Hid (([] : List (List Int)) = treeZ n m) := by
              have := HD3.out.1.2.2.1
              unfold Hid; rw [← HTR.out, cutM, List.drop_of_length_le (by omega)]; rfl
            have HR6 := Lib.hid (MRel.after HD3.out.1.2.1 HM3.out)
            by_cases hcap : cap = 1
            all_goals
              go_wp2_with fail
              go_loopw [11, 86] (fun o s wr' => o = .slice (some ⟨w9.heap.size, 0, none⟩) 0 0 ∧ s = .int .i64 0 ∧ wr' = w9.alloc (.cells #[] 32)) (fun _ _ _ => 0)
              case atStart => exact ⟨rfl, rfl, rfl⟩
              case round =>
                obtain ⟨rfl, rfl, rfl⟩ := hrel
                go_wp2_with fail
                go_ret
                exact ⟨_, _, rfl, by rw [← HK.out]; exact HR6.out.1, HR6.out.2.2.1, HR6.out.2.1⟩
theorem TreeMatrix_any (a b : Int) (w : World) :
    Calls Try.prog 33 #[.int .i64 a, .int .i64 b] w (RetM w (treeZ a b)) := by
  cases hg : gridB a b
  · have e0 : treeZ a b = [] := by simp [treeZ, hg]
    rw [e0]; clear e0
    go_enter Try.func33, Try.ntmps33
    go_wp2_with fail
    refine (GridOk_any _ _ _).mono ?_
    rintro e w1 ⟨rfl, rfl⟩
    rw [hg]
    go_wp2_with fail
    go_ret
    exact ⟨_, 0, rfl, OwnM.none _ _, Nat.zero_le _, Below.refl _ _⟩
  · have hb := (gridB_iff _ _).1 hg
    obtain ⟨n, rfl⟩ := Int.eq_ofNat_of_zero_le (show 0 ≤ a by omega)
    obtain ⟨m, rfl⟩ := Int.eq_ofNat_of_zero_le (show 0 ≤ b by omega)
    exact TreeMatrix_yes n m w hg
end Go.Proofs.Ytiecphhenpapoaa
