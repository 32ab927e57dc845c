/- The contract of determinant. -/
import Derived.Test.YtiecphhenpapoaaMat
import Derived.Test.YtiecphhenpapoaaOwnM
import Derived.StillTailTactics
import Derived.Deep.DeepCutAuto
import Derived.Deep.Cut
namespace Go.Proofs.Ytiecphhenpapoaa
open Go.RowKit

set_option maxRecDepth 100000 in
set_option maxHeartbeats 8000000 in
theorem determinant_any (u : Value) (xss : List (List Int)) (B : Nat) (w : World) (h : RdII w B u xss) (hB : B ≤ w.heap.size) (hl : xss.length ≤ 1024) (hr : ∀ i, i < xss.length → (rw' xss i).length = xss.length) :
    Calls Try.prog 95 #[u] w fun e w' => e = .returned (.int .i64 (detZ xss)) ∧ Below w.heap.size w w' := by
  have HU := Lib.hid h
  obtain ⟨A, c, rfl, h1, h2, h3⟩ := h.open_
  unfold maxLen at h2
  clear h h3
  generalize hres : detZ xss = r
  have HRES : Hid (detGo xss.length xss.length 0 xss 1 1 = r) := hres
  clear hres
  have hsh : Shape xss.length xss := ⟨rfl, hr⟩
  have hr1 : ∀ i, i < xss.length → (rw' xss i).length ≤ 1048576 := fun i hi => by rw [hr i hi]; omega
  go_enter Try.func95, Try.ntmps95
  go_wp2_with fail
  refine (copyRows_any _ xss _ _ HU.out hB (by omega) hr1).mono ?_
  rintro e w1 ⟨v1, hi1, rfl, ho1, hx1, hb1⟩
  rcases Nat.eq_zero_or_pos xss.length with h0 | hpos
  · obtain ⟨A1, c1, hv1, _⟩ := ho1.rd.open_
    have hz : xss = [] := List.eq_nil_of_length_eq_zero h0
    subst hz
    rw [hv1]
    have HF : Hid ((1 : Int) = r) := by rw [Hid, ← HRES.out]; rfl
    clear hv1
    go_wp2_with fail
    go_loopw [4, 5, 6] (fun a b s wr => a = .int .i64 1 ∧ b = .int .i64 1 ∧ s = .int .i64 0 ∧ wr = w1) (fun _ _ _ _ => 0)
    case atStart => exact ⟨rfl, rfl, rfl, rfl⟩
    case round =>
      obtain ⟨rfl, rfl, rfl, rfl⟩ := hrel
      go_wp2_with fail
      go_ret
      exact ⟨ret_int HF.out, hb1⟩
  · obtain ⟨g, cap, hv, _, _⟩ := World.ownsRow.form ho1.choose_spec.1 hpos
    have hcap := (World.ownsRow.lt ho1.choose_spec.1)
    rw [hv] at ho1 ⊢
    have hlo := (ho1.d.slice hpos).2
    obtain ⟨A0, c0, e0, k1, k2, _⟩ := ho1.rd.open_
    obtain rfl : cap = c0 := by simp only [Value.slice.injEq] at e0; exact e0.2.2
    have HD0 : Hid (DRel w w1 g cap xss.length xss) := ⟨ho1.d, hb1, hsh⟩
    unfold maxLen at k2
    clear hv hcap ho1 e0 hsh hr hr1 hb1 HU
    generalize xss.length = n at *
    go_wp2_with fail
    go_loopw [4, 5, 6] (fun a b s wr => ∃ (k f : Nat) (m : List (List Int)) (q p : Int), k < n ∧ Hid (n = k + f) ∧ a = .int .i64 q ∧ b = .int .i64 p ∧ s = .int .i64 k ∧ p ≠ 0 ∧ Hid (DRel w wr g cap n m) ∧ Hid (detGo n f k m q p = r)) (fun _ _ s _ => n - (intOf s).toNat)
    case atStart => exact ⟨0, n, xss, 1, 1, hpos, (by unfold Hid; omega), rfl, rfl, rfl, by omega, HD0, HRES⟩
    case round =>
      obtain ⟨k, f, m, q, p, hk, HKF, rfl, rfl, rfl, hp0, HD, HE⟩ := hrel
      by_cases hlt : k + 1 < n
      · have hk0 : (0 : Int) ≤ (k : Int) := by omega
        have hk1 : (k : Int) < (n : Int) := by omega
        have htk : decide ((k : Int) + 1 < (n : Int)) = true := by simp only [decide_eq_true_eq]; omega
        obtain ⟨f, rfl⟩ : ∃ f', f = f' + 1 := ⟨f - 1, by have := HKF.out; omega⟩
        have HE1 : Hid (detGo n (f + 1) k m q p = if pivG m k n (n - k) k = n then 0
          else if pivG m k n (n - k) k = k then detGo n f (k + 1) (allE n m p k n) q (elZ m k k)
          else detGo n f (k + 1) (allE n (swp m (pivG m k n (n - k) k) k) p k n) (wrap64 (-q)) (elZ (swp m (pivG m k n (n - k) k) k) k k)) := by
          unfold Hid; rw [detGo, if_pos hlt]
        obtain ⟨hpa, hpb⟩ := pivG_bd m k n (n - k) k (by omega)
        have HPN := Lib.hid (pivG_ne m k n (n - k) k (by omega))
        generalize hpv : pivG m k n (n - k) k = pv at *
        have HPV := Lib.hid hpv
        clear hpv
        go_wp2_with fail
        go_loop [7] (fun s => ∃ t : Nat, k ≤ t ∧ t ≤ n ∧ s = .int .i64 t ∧ Hid (pivG m k n (n - t) t = pv)) (fun s => n - (intOf s).toNat)
        case atStart => exact ⟨k, Nat.le_refl _, by omega, rfl, HPV⟩
        case round =>
          obtain ⟨t, ht0, ht, rfl, HT⟩ := hrel
          by_cases htn : t < n
          · obtain ⟨gi, ci, r1, r2, r3, r4, r5, r6, r7, _⟩ := HD.out.row htn
            have r5' := r5 k hk
            unfold maxLen at r4
            have t0 : (0 : Int) ≤ (t : Int) := by omega
            have t1 : (t : Int) < (n : Int) := by omega
            have hs : pivG m k n (n - t) t = if elZ m t k == 0 then pivG m k n (n - (t + 1)) (t + 1) else t := by
              rw [show n - t = (n - (t + 1)) + 1 by omega, pivG, if_pos htn]
            clear r5 r6 r7
            cases hz : elZ m t k == 0
            · have HS : Hid (t = pv) := by unfold Hid; rw [← HT.out, hs, hz]; rfl
              have HTN := Lib.hid htn
              clear hs
              have hnn : ((t : Int) == (n : Int)) = false := by rw [beq_eq_false_iff_ne]; omega
              go_upto_if 41 with (fail)
              go_cut [4] (fun s wx => ∃ (q1 : Int) (m1 : List (List Int)), s = .int .i64 q1 ∧ Hid (DRel w wx g cap n m1) ∧ Hid (elZ m1 k k ≠ 0) ∧ Hid (detGo n f (k + 1) (allE n m1 p k n) q1 (elZ m1 k k) = r))
              case first =>
                by_cases htk : t = k
                · have hkk : ((t : Int) != (k : Int)) = false := by rw [bne_eq_false_iff_eq]; omega
                  have HKN : Hid (elZ m k k ≠ 0) := by have h5 := HPN.out; rw [← HS.out, htk] at h5; exact h5 hk
                  have HE2 : Hid (detGo n f (k + 1) (allE n m p k n) q (elZ m k k) = r) := by unfold Hid; rw [← HE.out, HE1.out, ← HS.out, if_neg (by omega), if_pos htk]
                  have HTK := Lib.hid htk
                  clear htk
                  go_wp2_with fail
                  go_meet
                  exact ⟨_, m, rfl, HD, HKN, HE2⟩
                · have hkk : ((t : Int) != (k : Int)) = true := by rw [bne_iff_ne]; omega
                  have HE2 : Hid (detGo n f (k + 1) (allE n (swp m t k) p k n) (wrap64 (-q)) (elZ (swp m t k) k k) = r) := by unfold Hid; rw [← HE.out, HE1.out, ← HS.out, if_neg (by omega), if_neg htk]
                  have HKN : Hid (elZ (swp m t k) k k ≠ 0) := by
                    unfold Hid
                    rw [swp_kk HD.out.2.2 hk]; have h5 := HPN.out; rw [← HS.out] at h5; exact h5 HTN.out
                  obtain ⟨gk, ck, s1, s2, s3, s4, _⟩ := HD.out.row hk
                  have HSW := Lib.hid (HD.out.swap HTN.out hk htk r1 s1)
                  have HTK := Lib.hid htk
                  have ft := HSW.out.2 t
                  have fk := HSW.out.2 k
                  unfold maxLen at s4
                  clear r5' hz
                  have hkt : ¬ k = t := fun e => htk e.symm
                  go_wp2_with fail
                  go_region
                  go_wp2_with fail
                  go_meet
                  exact ⟨_, _, rfl, HSW.out.1.below ((Below.refl _ _).drew), HKN, HE2⟩
              case rest =>
                obtain ⟨q1, m1, rfl, HD1, HKN, HE2⟩ := hcut
                clear HD HE HE1 HPN HT HS HTN r1 r2 r3 r4 r5' hz hnn
                go_wp2_with fail
                go_loopw [8] (fun s wr => ∃ (i : Nat) (m3 : List (List Int)), k + 1 ≤ i ∧ i ≤ n ∧ s = .int .i64 i ∧ Hid (DRel w wr g cap n m3) ∧ Hid (m3 = allE n m1 p k i)) (fun s _ => n - (intOf s).toNat)
                case atStart => exact ⟨k + 1, m1, Nat.le_refl _, by omega, by go_num, HD1, by (unfold Hid; rw [allE, if_pos (Nat.le_refl _)])⟩
                case round =>
                  obtain ⟨i, m3, hik, hin, rfl, HD3, HM3⟩ := hrel
                  have i0 : (0 : Int) ≤ (i : Int) := by omega
                  by_cases hlti : i < n
                  · have i1 : (i : Int) < (n : Int) := by omega
                    have hti : decide ((i : Int) < (n : Int)) = true := by simp only [decide_eq_true_eq]; omega
                    go_wp2_with fail
                    go_loopw [9] (fun s wr => ∃ (j : Nat) (m4 : List (List Int)), k + 1 ≤ j ∧ j ≤ n ∧ s = .int .i64 j ∧ Hid (DRel w wr g cap n m4) ∧ Hid (m4 = rowE m3 p k i j)) (fun s _ => n - (intOf s).toNat)
                    case atStart => exact ⟨k + 1, m3, Nat.le_refl _, by omega, by go_num, HD3, by (unfold Hid; rw [rowE, if_pos (Nat.le_refl _)])⟩
                    case round =>
                      obtain ⟨j, m4, hjk, hjn, rfl, HD4, HM4⟩ := hrel
                      by_cases hltj : j < n
                      · have j0 : (0 : Int) ≤ (j : Int) := by omega
                        have j1 : (j : Int) < (n : Int) := by omega
                        obtain ⟨gi, ci, gk, ck, r3, r4, s3, s4, ⟨l1, l2, l3, l4, l5⟩, rj, rf, hz⟩ := HD4.out.pair hlti hk hltj (by omega) (by omega)
                        unfold maxLen at r4 s4
                        have HD5 : Hid (DRel w (wr.setCell ⟨gi, j, none⟩ (.int .i64 (wrap64 ((wrap64 (wrap64 (elZ m4 i j * elZ m4 k k) - wrap64 (elZ m4 i k * elZ m4 k j))).tdiv p)))).drew g cap n (stepE m4 p k i j)) := (hz (wrap64 ((wrap64 (wrap64 (elZ m4 i j * elZ m4 k k) - wrap64 (elZ m4 i k * elZ m4 k j))).tdiv p))).2
                        clear hz
                        go_upto_region 20 with (fail)
                        go_still_tail 39, (by kernel_rfl)
                        change wpList _ _ _ _ _ wr.drew
                        have HD6 : Hid (DRel w (wr.drew.setCell ⟨gi, j, none⟩ (.int .i64 (wrap64 ((wrap64 (wrap64 (elZ m4 i j * elZ m4 k k) - wrap64 (elZ m4 i k * elZ m4 k j))).tdiv p)))) g cap n (stepE m4 p k i j)) := HD5
                        have rj' : wr.drew.cell? ⟨gi, j, none⟩ = some (.int .i64 (elZ m4 i j)) := rj
                        have rf' : wr.drew.frozen? ⟨gi, j, none⟩ = false := rf
                        clear HD5
                        generalize wr.drew = wd at *
                        go_wp2_with fail
                        go_roundw
                        case rel => exact ⟨j + 1, _, by omega, by omega, by go_num, HD6, by (unfold Hid; rw [rowE, if_neg (by omega), HM4.out])⟩
                        case measure => simp [intOf]; omega
                      · have HK : Hid (m4 = rowE m3 p k i n) := by unfold Hid; rw [HM4.out, show j = n by omega]
                        go_wp2_with fail
                        go_roundw
                        case rel => exact ⟨i + 1, m4, by omega, by omega, by go_num, HD4, by (unfold Hid; rw [HK.out, HM3.out, allE, if_neg (by omega)])⟩
                        case measure => simp [intOf]; omega
                  · have HK : Hid (m3 = allE n m1 p k n) := by unfold Hid; rw [HM3.out, show i = n by omega]
                    obtain ⟨gk, ck, s1, s2, s3, s4, s5, s6, s7, _⟩ := HD3.out.row hk
                    have sk := s5 k hk
                    have HKK : Hid (elZ m3 k k = elZ m1 k k) := by unfold Hid elZ; rw [HK.out, (allE_facts HD1.out.2.2 p k n (Nat.le_refl _)).2 k (Nat.le_refl _)]
                    have hne : elZ m3 k k ≠ 0 := by rw [HKK.out]; exact HKN.out
                    have HNE := Lib.hid hne
                    unfold maxLen at s4
                    clear s5 s6 s7 hne
                    go_wp2_with fail
                    go_roundw
                    case rel => exact ⟨k + 1, f, m3, _, _, hlt, (by have := HKF.out; unfold Hid; omega), rfl, rfl, by go_num, HNE.out, HD3, by (unfold Hid; rw [HKK.out, HK.out]; exact HE2.out)⟩
                    case measure => simp [intOf]; omega
            · have HS : Hid (pivG m k n (n - (t + 1)) (t + 1) = pv) := by unfold Hid; rw [← HT.out, hs, hz]; rfl
              clear hs
              go_wp2_with fail
              go_round
              case rel => exact ⟨t + 1, by omega, by omega, by go_num, HS⟩
              case measure => simp [intOf]; omega
          · have HS : Hid (n = pv) := by unfold Hid; rw [← HT.out, show n - t = 0 by omega, pivG]; omega
            have HF : Hid ((0 : Int) = r) := by unfold Hid; rw [← HE.out, HE1.out, if_pos HS.out.symm]
            have htn' : ((t : Int) == (n : Int)) = true := by rw [beq_iff_eq]; omega
            go_wp2_with fail
            go_ret
            exact ⟨ret_int HF.out, HD.out.2.1⟩
      · have HF : Hid (wrap64 (q * elZ m (n - 1) (n - 1)) = r) := by
          unfold Hid; rw [← HE.out]
          cases f with
          | zero => rw [detGo, detFin, if_neg (by omega)]
          | succ f => rw [detGo, if_neg hlt, detFin, if_neg (by omega)]
        obtain ⟨gi, ci, r1, r2, r3, r4, r5, r6, r7, _⟩ := HD.out.row (i := n - 1) (by omega)
        have r5' := r5 (n - 1) (by omega)
        unfold maxLen at r4
        have e1 : IntKind.i64.wrap ((n : Int) - 1) = (n : Int) - 1 := IntWalk.i64_in _ (by omega)
        have e2 : 0 ≤ (n : Int) - 1 := by omega
        have e3 : ((n : Int) - 1).toNat = n - 1 := by omega
        have e4 : (n : Int) - 1 < (n : Int) := by omega
        have hn0 : ((n : Int) == 0) = false := by rw [beq_eq_false_iff_ne]; omega
        clear r5 r6 r7
        go_wp2_with fail
        go_ret
        exact ⟨ret_int HF.out, HD.out.2.1⟩
end Go.Proofs.Ytiecphhenpapoaa
