/- The contract of the reference's determinant by division without rests. -/
import Derived.Test.YtpefpllokhbkiaaTreeM
import Derived.Test.YtpefpllokhbkiaaPush
import Derived.Test.YtpefpllokhbkiaaFlat
import Derived.StillTailTactics
import Derived.Deep.DeepCutAuto
import Derived.Deep.Cut
namespace Go.Proofs.Ytpefpllokhbkiaa
open Go.RowKit

def sdetGo (n : Nat) : Nat → Nat → List (List Int) → Int → Int
  | 0, _, _, b => b
  | f + 1, k, m, b => if k < n then (if elZ m k k = 0 then 0 else sdetGo n f (k + 1) (allE n m b k n) (elZ m k k)) else b
def sdetZ (m : List (List Int)) : Int := sdetGo m.length m.length 0 m 1

theorem RowRel.ofSrc {w wr w1 : World} {hi : Nat} {v u : Value} {zss : List (List Int)} {zs : List Int} (h : MRel w wr hi v zss) (H : Acc elInt w hi w1 u ([] ++ zs)) (hg : (wr.alloc (.cells #[] 3)).grownBy w1 (some wr.heap.size)) : RowRel w w1 hi v zss u zs := by
  obtain ⟨a1, a2, a3, a4⟩ := h.below ((Below.refl _ _).alloc (Nat.le_refl _) (.cells #[] 3))
  obtain ⟨b1, b2, b3, b4⟩ := H
  exact ⟨⟨a1.grown hg fun k hk => by obtain rfl := Option.some.inj hk; exact h.2.2.1, b2, b4, a4⟩, ownF_int.1 b1⟩

set_option maxRecDepth 100000 in
set_option maxHeartbeats 8000000 in
theorem l23Det_any (u : Value) (xss : List (List Int)) (B : Nat) (w : World) (h : RdII w B u xss) (hB : B ≤ w.heap.size) (hl : xss.length ≤ 1024) (hr : ∀ i, i < xss.length → (rw' xss i).length = xss.length) :
    Calls Try.prog 88 #[u] w fun e w' => e = .returned (.int .i64 (sdetZ xss)) ∧ Below w.heap.size w w' := by
  obtain ⟨A, c, rfl, h1, h2, h3⟩ := h.open_
  unfold maxLen at h2
  clear h
  have H3 := Lib.hid h3; clear h3
  generalize hres : sdetZ xss = r
  have HRES : Hid (sdetGo xss.length xss.length 0 xss 1 = r) := hres
  clear hres
  have HSH : Hid (Shape xss.length xss) := ⟨rfl, hr⟩
  have HR := Lib.hid hr; clear hr
  have HMS := Lib.hid (MRel.start w)
  generalize hN : xss.length = n at *
  have HN := Lib.hid hN; clear hN
  go_enter Try.func88, Try.ntmps88
  go_wp2_with fail
  go_loopw [4, 5] (fun o s wr => ∃ (k hi : Nat) (v : Value) (zss : List (List Int)), k ≤ n ∧ s = .int .i64 k ∧ o = v ∧ Hid (MRel w wr hi v zss) ∧ Hid (zss = xss.take k) ∧ zss.length ≤ k) (fun _ s _ => n - (intOf s).toNat)
  case atStart => exact ⟨0, _, _, [], Nat.zero_le _, rfl, rfl, HMS, (by simp [Hid]), Nat.le_refl _⟩
  case round =>
    obtain ⟨k, hi, v, zss, hk, rfl, rfl, HM, HZ, hzl⟩ := hrel
    by_cases hlt : k < n
    · obtain ⟨ad, ur, rfl, hbl, hc, A1, c1, rfl, q1, q2, q3⟩ := H3.out k (by rw [HN.out]; exact hlt)
      have hb := HM.out.2.1
      have hcw := (hb.cell (p := ad.add k) (by rw [addBlock]; omega)).trans hc
      have hca : (wr.alloc (.cells #[] 3)).cell? (ad.add k) = some (.slice A1 (rw' xss k).length c1) := (((Below.refl wr.heap.size wr).alloc (Nat.le_refl _) (.cells #[] 3)).cell (p := ad.add k) (by rw [addBlock]; have := hb.size; omega)).trans hcw
      have hal : Below w.heap.size w (wr.alloc (.cells #[] 3)) := hb.alloc hb.size _
      have HQ := Lib.hid (q3.below (hal.mono hB))
      have HACC : Hid (Acc elInt w hi (wr.alloc (.cells #[] 3)) (.slice (some ⟨wr.heap.size, 0, none⟩) 0 0) []) := Acc.startAt hb HM.out.2.2.2 HM.out.2.2.1
      have hrl : (rw' xss k).length ≤ 1024 := by rw [HR.out k hlt]; omega
      have HX := Lib.hid (take_row xss k (by rw [HN.out]; exact hlt))
      have hk0 : (0 : Int) ≤ (k : Int) := by omega
      have hk1 : (k : Int) < (n : Int) := by omega
      have HFL : Hid ((rw' xss k).flatMap elInt.f = (rw' xss k).map (Value.int .i64)) := by unfold Hid; generalize rw' xss k = zs; induction zs with | nil => rfl | cons z zs ih => rw [List.flatMap_cons, ih]; rfl
      clear hc q3 hb hal hcw
      generalize rw' xss k = zs at *
      unfold maxLen at q2
      go_wp2_with (first
        | (at_builtin; refine wpList_pushSrc okInt rfl rfl _ _ rfl HACC.out rfl zs B A1 zs.length c1 (by rw [HFL.out]; exact HQ.out) rfl rfl (by simp; omega) ?_; intro u1 w1 HA1 HG1; have HRR := Lib.hid (RowRel.ofSrc HM.out HA1.out HG1.out.1); clear HA1 HG1; obtain ⟨A4, c4, rfl, _, _, _⟩ := HRR.out.2.rd)
        | (at_builtin; refine wpList_pushRow rfl _ _ rfl HRR.out rfl _ rfl (by simp) (by omega) ?_; intro u2 w2 HM2 HB2))
      go_roundw
      case rel => exact ⟨k + 1, _, _, _, by omega, by go_num, rfl, HM2, (by unfold Hid; rw [HX.out, ← HZ.out]), by simp; omega⟩
      case measure => simp [intOf]; omega
    · have HZ2 : Hid (zss = xss) := by unfold Hid; rw [HZ.out, List.take_of_length_le (by rw [HN.out]; omega)]
      rw [HZ2.out] at HM
      obtain rfl : k = n := by omega
      clear HZ HZ2 hzl hlt hk
      rcases Nat.eq_zero_or_pos k with h0 | hpos
      · subst h0
        have HF : Hid ((1 : Int) = r) := HRES
        go_wp2_with fail
        go_loopw [6, 7] (fun b s wr' => b = .int .i64 1 ∧ s = .int .i64 0 ∧ Below w.heap.size w wr') (fun _ _ _ => 0)
        case atStart => exact ⟨rfl, rfl, HM.out.2.1⟩
        case round =>
          obtain ⟨rfl, rfl, hb9⟩ := hrel
          go_wp2_with fail
          go_ret
          exact ⟨ret_int HF.out, hb9⟩
      · obtain ⟨g, cap, rfl, hc1, hc2, hd⟩ := HM.out.mat HSH.out hpos
        have HD0 := Lib.hid hd
        clear hd HM
        obtain ⟨N, HNk⟩ : ∃ N, Hid (N = k) := ⟨_, rfl⟩
        have HRES2 : Hid (sdetGo k k 0 xss 1 = r) := HRES
        clear HRES HMS HSH HR H3 HN hl h1 h2
        go_wp2_with fail
        go_loopw [6, 7] (fun b s wr => ∃ (j f : Nat) (m : List (List Int)) (p : Int), j ≤ k ∧ Hid (k = j + f) ∧ b = .int .i64 p ∧ s = .int .i64 j ∧ p ≠ 0 ∧ Hid (DRel w wr g cap k m) ∧ Hid (sdetGo k f j m p = r)) (fun _ s _ => k - (intOf s).toNat)
        case atStart => exact ⟨0, k, xss, 1, Nat.zero_le _, (by unfold Hid; omega), rfl, rfl, by omega, HD0, HRES2⟩
        case round =>
          obtain ⟨j, f, m, p, hj, HKF, rfl, rfl, hp0, HD, HE⟩ := hrel
          by_cases hlt : j < k
          · obtain ⟨f, rfl⟩ : ∃ f', f = f' + 1 := ⟨f - 1, by have := HKF.out; omega⟩
            have HE1 : Hid (sdetGo k (f + 1) j m p = if elZ m j j = 0 then 0 else sdetGo k f (j + 1) (allE k m p j k) (elZ m j j)) := by unfold Hid; rw [sdetGo, if_pos hlt]
            obtain ⟨gi, ci, r1, r2, r3, r4, r5, r6, r7, _⟩ := HD.out.row hlt
            have r5' := r5 j hlt
            unfold maxLen at r4
            have t0 : (0 : Int) ≤ (j : Int) := by omega
            have t1 : (j : Int) < (k : Int) := by omega
            clear r5 r6 r7
            cases hz : elZ m j j == 0
            · have HZN : Hid (elZ m j j ≠ 0) := by unfold Hid; simpa using hz
              have HE2 : Hid (sdetGo k f (j + 1) (allE k m p j k) (elZ m j j) = r) := by unfold Hid; rw [← HE.out, HE1.out, if_neg HZN.out]
              clear HE HE1
              go_upto_region 13 with (fail)
              clear r1 r2 r3 r4 r5' hz
              go_wp2_with fail
              go_loopw [8] (fun s wr => ∃ (i : Nat) (m3 : List (List Int)), j + 1 ≤ i ∧ i ≤ k ∧ s = .int .i64 i ∧ Hid (DRel w wr g cap k m3) ∧ Hid (m3 = allE k m p j i)) (fun s _ => k - (intOf s).toNat)
              case atStart => exact ⟨j + 1, m, Nat.le_refl _, by omega, by go_num, HD, by (unfold Hid; rw [allE, if_pos (Nat.le_refl _)])⟩
              case round =>
                obtain ⟨i, m3, hik, hin, rfl, HD3, HM3⟩ := hrel
                have i0 : (0 : Int) ≤ (i : Int) := by omega
                by_cases hlti : i < k
                · have i1 : (i : Int) < (k : Int) := by omega
                  have hti : decide ((i : Int) < (k : Int)) = true := by simp only [decide_eq_true_eq]; omega
                  go_wp2_with fail
                  go_loopw [9] (fun s wr => ∃ (t : Nat) (m4 : List (List Int)), j + 1 ≤ t ∧ t ≤ k ∧ s = .int .i64 t ∧ Hid (DRel w wr g cap k m4) ∧ Hid (m4 = rowE m3 p j i t)) (fun s _ => k - (intOf s).toNat)
                  case atStart => exact ⟨j + 1, m3, Nat.le_refl _, by omega, by go_num, HD3, by (unfold Hid; rw [rowE, if_pos (Nat.le_refl _)])⟩
                  case round =>
                    obtain ⟨t, m4, htk, htn, rfl, HD4, HM4⟩ := hrel
                    by_cases hltt : t < k
                    · have j0 : (0 : Int) ≤ (t : Int) := by omega
                      have j1 : (t : Int) < (k : Int) := by omega
                      obtain ⟨gi, ci, gk, ck, r3, r4, s3, s4, ⟨l1, l2, l3, l4, l5⟩, rj, rf, hz⟩ := HD4.out.pair hlti hlt hltt (by omega) (by omega)
                      unfold maxLen at r4 s4
                      have HD5 : Hid (DRel w (wr.setCell ⟨gi, t, none⟩ (.int .i64 (wrap64 ((wrap64 (wrap64 (elZ m4 i t * elZ m4 j j) - wrap64 (elZ m4 i j * elZ m4 j t))).tdiv p)))).drew g cap k (stepE m4 p j i t)) := (hz (wrap64 ((wrap64 (wrap64 (elZ m4 i t * elZ m4 j j) - wrap64 (elZ m4 i j * elZ m4 j t))).tdiv p))).2
                      clear hz
                      go_upto_region 19 with (fail)
                      go_still_tail 39, (by kernel_rfl)
                      change wpList _ _ _ _ _ wr.drew
                      have HD6 : Hid (DRel w (wr.drew.setCell ⟨gi, t, none⟩ (.int .i64 (wrap64 ((wrap64 (wrap64 (elZ m4 i t * elZ m4 j j) - wrap64 (elZ m4 i j * elZ m4 j t))).tdiv p)))) g cap k (stepE m4 p j i t)) := HD5
                      have rj' : wr.drew.cell? ⟨gi, t, none⟩ = some (.int .i64 (elZ m4 i t)) := rj
                      have rf' : wr.drew.frozen? ⟨gi, t, none⟩ = false := rf
                      clear HD5
                      generalize wr.drew = wd at *
                      go_wp2_with fail
                      go_roundw
                      case rel => exact ⟨t + 1, _, by omega, by omega, by go_num, HD6, by (unfold Hid; rw [rowE, if_neg (by omega), HM4.out])⟩
                      case measure => simp [intOf]; omega
                    · have HK : Hid (m4 = rowE m3 p j i k) := by unfold Hid; rw [HM4.out, show t = k by omega]
                      go_wp2_with fail
                      go_roundw
                      case rel => exact ⟨i + 1, m4, by omega, by omega, by go_num, HD4, by (unfold Hid; rw [HK.out, HM3.out, allE, if_neg (by omega)])⟩
                      case measure => simp [intOf]; omega
                · have HK : Hid (m3 = allE k m p j k) := by unfold Hid; rw [HM3.out, show i = k by omega]
                  obtain ⟨gk, ck, s1, s2, s3, s4, s5, s6, s7, _⟩ := HD3.out.row hlt
                  have sk := s5 j hlt
                  have HKK : Hid (elZ m3 j j = elZ m j j) := by unfold Hid elZ; rw [HK.out, (allE_facts HD.out.2.2 p j k (Nat.le_refl _)).2 j (Nat.le_refl _)]
                  have hne : elZ m3 j j ≠ 0 := by rw [HKK.out]; exact HZN.out
                  have HNE := Lib.hid hne
                  unfold maxLen at s4
                  clear s5 s6 s7 hne
                  go_wp2_with fail
                  go_roundw
                  case rel => exact ⟨j + 1, f, m3, _, by omega, (by have := HKF.out; unfold Hid; omega), rfl, by go_num, HNE.out, HD3, by (unfold Hid; rw [HKK.out, HK.out]; exact HE2.out)⟩
                  case measure => simp [intOf]; omega
            · have HF : Hid ((0 : Int) = r) := by unfold Hid; rw [← HE.out, HE1.out, if_pos (by simpa using hz)]
              go_wp2_with fail
              go_ret
              exact ⟨ret_int HF.out, HD.out.2.1⟩
          · have HF : Hid (p = r) := by
              unfold Hid; rw [← HE.out]
              cases f with
              | zero => rw [sdetGo]
              | succ f => rw [sdetGo, if_neg hlt]
            go_wp2_with fail
            go_ret
            exact ⟨ret_int HF.out, HD.out.2.1⟩
end Go.Proofs.Ytpefpllokhbkiaa
