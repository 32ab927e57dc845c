/- What the claim's walk rests on: parts LAlt3, Arb, Mix, LAlt4, LAlt5. -/
import Derived.Test.YtehnbalbpfmijaaKv4
import Derived.Test.YtehnbalbpfmijaaBasic
import Derived.Test.YtehnbalbpfmijaaKv2
import Derived.Test.YtehnbalbpfmijaaKv3
import Derived.Deep.DeepCutAuto
import Derived.Deep.Cut
import Derived.Deep.RegionHeld3
import Derived.Laws.EntriesVeiled
import Derived.StillTailTactics
import Derived.Deep.RegionLaw
namespace Go.Proofs.Ytehnbalbpfmijaa
open Go.RowKit
set_option linter.unusedVariables false

def APost2 (w0 : World) (L : ALay) (n : Nat) (F : List (List Int) × List (List (List Int))) (C : List Int) (os : List (List (List Int))) (e : Ending) (w' : World) : Prop := e = .returned (.tuple #[]) ∧ ASt w0 L n w' F.1 C (os ++ F.2)
theorem place_a {n k : Nat} (hn : 0 < n) (h : k < n * n) : k / n < n ∧ k % n < n := ⟨by rw [Nat.div_lt_iff_lt_mul hn]; exact h, Nat.mod_lt _ hn⟩
set_option maxRecDepth 100000 in
set_option maxHeartbeats 8000000 in
theorem arest_step (w0 : World) (L : ALay) (hL : L.Ok w0.heap.size) (n : Nat) (hn : 1 ≤ n ∧ n ≤ 4) (d k : Nat) (hk : k + (d + 1) = n * n) (IH : ARest w0 L n d (k + 1)) : ARest w0 L n (d + 1) k := by
  intro wr M C os s hS hCl hC hs0 hs1 hO
  have HS := Lib.hid hS
  have cn : wr.cell? ⟨L.pn, 0, none⟩ = some (.int .i64 n) := cell_of_one hS.1.en
  obtain ⟨hy, hx⟩ := place_a (n := n) (k := k) (by omega) (by omega)
  obtain ⟨N, hN⟩ : ∃ N, n * n = N := ⟨_, rfl⟩
  have hmul : (n : Int) * (n : Int) = (N : Int) := by rw [← hN]; simp
  have hnn : N ≤ 16 := by rw [← hN]; exact Nat.mul_le_mul hn.2 hn.2
  rw [hN] at hk
  have hrm : (k : Int) % (n : Int) = ((k % n : Nat) : Int) := by rw [Int.natCast_emod]
  have hrt : Int.tmod (k : Int) (n : Int) = ((k % n : Nat) : Int) := by rw [Int.tmod_eq_emod_of_nonneg (by omega)]; exact hrm
  have hqm : (k : Int) / (n : Int) = ((k / n : Nat) : Int) := by rw [Int.natCast_ediv]
  have hqt : Int.tdiv (k : Int) (n : Int) = ((k / n : Nat) : Int) := by rw [Int.tdiv_eq_ediv_of_nonneg (by omega)]; exact hqm
  have hn0 : ((n : Int) == 0) = false := by rw [beq_eq_false_iff_ne]; omega
  have hnp : (0 : Int) < (n : Int) := by omega
  have hnz : ¬ n = 0 := by omega
  have hm2 : ((k : Int) == (N : Int)) = false := by rw [beq_eq_false_iff_ne]; omega
  have hd3 : 3 ^ (d + 1) = 3 * 3 ^ d := by rw [Nat.pow_succ, Nat.mul_comm]
  have hdO : os.length + 3 * 3 ^ d ≤ 100000000 := by omega
  have HO := Lib.hid hdO
  have HC01 := Lib.hid hC
  have HSET : Hid (∀ (M2 : List (List Int)) (z : Int), setA M2 n k z = M2.set (k / n) ((rw' M2 (k / n)).set (k % n) z)) := fun _ _ => rfl
  obtain ⟨rec, HREC⟩ : ∃ f : Int → List (List Int) → List Int → List (List Int) × List (List (List Int)), Hid ((fun s2 M2 C2 => altR n d (k + 1) s2 M2 C2) = f) := ⟨_, rfl⟩
  have HRL : Hid (∀ s M C, (rec s M C).2.length ≤ 3 ^ d) := fun s M C => by rw [← HREC.out]; exact altR_len n d (k + 1) s M C
  have HI : Hid (∀ (wr : World) (M : List (List Int)) (C : List Int) (os : List (List (List Int))) (s : Int), ASt w0 L n wr M C os → C.length = n → InC01 C → 0 ≤ s → s ≤ 1 → os.length + 3 ^ d ≤ 100000000 →
      Calls Try.prog 124 #[.int .i64 ((k : Int) + 1), .int .i64 s, .pointer (some ⟨L.pn, 0, none⟩), .pointer (some ⟨L.pm, 0, none⟩), .pointer (some ⟨L.po, 0, none⟩), .pointer (some ⟨L.pc, 0, none⟩), .pointer (some ⟨L.ps, 0, none⟩)] wr
        (fun e w' => e = .returned (.tuple #[]) ∧ ASt w0 L n w' (rec s M C).1 C (os ++ (rec s M C).2))) := fun wr M C os s a b c d e f => by
    have := IH wr M C os s a b c d e f
    rw [show ((k + 1 : Nat) : Int) = (k : Int) + 1 by omega] at this
    refine this.mono ?_
    rintro e w' ⟨h1, h2⟩
    rw [← HREC.out]
    exact ⟨h1, h2⟩
  have HAR : Hid (∀ t, (newRow n k && (s != 1)) = false → (if newRow n k then 0 else s) = t → altR n (d + 1) k s M C = altStep n k t C rec M 3) := fun t h1 h2 => by rw [altR, h1, h2, HREC.out]; rfl
  have HLN : Hid (∀ t j, (altStep n k t C rec M j).2.length ≤ j * 3 ^ d) := fun t j => altStep_len n k t C rec M (3 ^ d) HRL.out j
  have HSS : Hid (∀ t j, altStep n k t C rec M (j + 1) = if inB (t + ((j : Int) - 1)) 0 1 && inB (el C (k % n) + ((j : Int) - 1)) 0 1 then ((rec (t + ((j : Int) - 1)) (setA (altStep n k t C rec M j).1 n k ((j : Int) - 1)) (C.set (k % n) (el C (k % n) + ((j : Int) - 1)))).1, (altStep n k t C rec M j).2 ++ (rec (t + ((j : Int) - 1)) (setA (altStep n k t C rec M j).1 n k ((j : Int) - 1)) (C.set (k % n) (el C (k % n) + ((j : Int) - 1)))).2) else altStep n k t C rec M j) := fun t j => rfl
  have HS00 : Hid (∀ t, altStep n k t C rec M 0 = (M, [])) := fun t => rfl
  have hck := hC (k % n)
  obtain ⟨hn1, hn4⟩ := hn
  obtain ⟨hc0, hc1⟩ := hck
  have HCL := Lib.hid hCl
  have HN := Lib.hid hN
  have HBK : Hid (∀ z, (C.set (k % n) z).set (k % n) (el C (k % n)) = C) := set_back C (k % n)
  clear hS hC hd3 hdO hO IH hCl hN
  rcases row_cases n k s with hr | ⟨hr0, hr⟩ | ⟨hr0, hr, hs⟩ | ⟨hr0, hr, hs⟩
  · have HF : Hid (altR n (d + 1) k s M C = altStep n k s C rec M 3) := HAR.out s (by simp [newRow, hr]) (by simp [newRow, hr])
    have t1 : decide (0 < k) = false := by simp only [decide_eq_false_iff_not]; omega
    have HRR := Lib.hid hr
    clear hr
    generalize k / n = y at *
    generalize k % n = x at *
    generalize hce : el C x = c at *
    have HCE := Lib.hid hce
    clear hce
    obtain ⟨st, HSTE⟩ : ∃ st : Nat → List (List Int) × List (List (List Int)), Hid (st = fun j => altStep n k s C rec M j) := ⟨_, rfl⟩
    have HX0 : Hid (st 0 = (M, [])) := by unfold Hid; rw [HSTE.out]; exact HS00.out s
    have HX1 : Hid (∀ j : Nat, st (j + 1) = if inB (s + ((j : Int) - 1)) 0 1 && inB (c + ((j : Int) - 1)) 0 1 then ((rec (s + ((j : Int) - 1)) (setA (st j).1 n k ((j : Int) - 1)) (C.set x (c + ((j : Int) - 1)))).1, (st j).2 ++ (rec (s + ((j : Int) - 1)) (setA (st j).1 n k ((j : Int) - 1)) (C.set x (c + ((j : Int) - 1)))).2) else st j) := fun j => by rw [HSTE.out]; exact HSS.out s j
    have HXL : Hid (∀ j, (st j).2.length ≤ j * 3 ^ d) := fun j => by rw [HSTE.out]; exact HLN.out s j
    have HX3 : Hid (altR n (d + 1) k s M C = st 3) := by unfold Hid; rw [HF.out, HSTE.out]
    suffices HQ : Calls Try.prog 124 #[.int .i64 k, .int .i64 s, .pointer (some ⟨L.pn, 0, none⟩), .pointer (some ⟨L.pm, 0, none⟩), .pointer (some ⟨L.po, 0, none⟩), .pointer (some ⟨L.pc, 0, none⟩), .pointer (some ⟨L.ps, 0, none⟩)] wr (APost2 w0 L n (st 3) C os) from HQ.mono fun e w' h => ⟨h.1, by rw [HX3.out]; exact h.2⟩
    clear HF HSTE HAR HLN HSS HS00 HREC HRL HX3
    go_enter Try.func124, Try.ntmps124
    go_wp2_with fail
    go_loopw [9] (fun i wr2 => ∃ (j : Nat) (z : Int), j ≤ 3 ∧ z = (j : Int) - 1 ∧ i = .int .i64 z ∧ Hid (ASt w0 L n wr2 (st j).1 C (os ++ (st j).2))) (fun i _ => 3 - (intOf i + 1).toNat)
    case atStart => exact ⟨0, -1, Nat.zero_le _, rfl, rfl, by (unfold Hid; rw [HX0.out]; simpa using HS.out)⟩
    case round =>
      obtain ⟨j, z, hj, hz, rfl, HS2⟩ := hrel
      by_cases hlt : j < 3
      · have ht : decide (z ≤ 1) = true := by simp only [decide_eq_true_eq]; omega
        have HXJ := Lib.hid (HX1.out j)
        rw [← hz] at HXJ
        have hz0 : -1 ≤ z := by omega
        have hz1 : z ≤ 1 := by omega
        have HZ := Lib.hid hz
        clear hz
        have HD2 : Hid (∀ q, ASt w0 L n (wr.drewN q) (st j).1 C (os ++ (st j).2)) := fun q => HS2.out.drewN q
        obtain ⟨p1, p2, _, _⟩ := HS2.out.col hL HCL.out hx
        have cn2 : wr.cell? ⟨L.pn, 0, none⟩ = some (.int .i64 n) := cell_of_one HS2.out.1.en
        rw [HCE.out] at p2
        obtain ⟨SZ, HSZ⟩ : ∃ t, Hid (s + z = t) := ⟨_, rfl⟩
        have wsz : IntKind.i64.wrap (s + z) = SZ := by rw [IntWalk.i64_in _ (by omega)]; have := HSZ.out; omega
        have wcz : IntKind.i64.wrap (c + z) = c + z := IntWalk.i64_in _ (by omega)
        rw [HSZ.out] at HXJ
        have HC0 := Lib.hid (And.intro hc0 hc1)
        have HWT : Hid (∀ q W, inB q 0 1 = true → Calls Try.prog 70 #[.int .i64 q, .int .i64 0, .int .i64 1] W (fun e w' => e = .returned (.bool true) ∧ W = w')) := fun q W h => by have := within_any q 0 1 W; rw [h] at this; exact this
        have HWF : Hid (∀ q W, inB q 0 1 = false → Calls Try.prog 70 #[.int .i64 q, .int .i64 0, .int .i64 1] W (fun e w' => e = .returned (.bool false) ∧ W = w')) := fun q W h => by have := within_any q 0 1 W; rw [h] at this; exact this
        cases hr1 : inB SZ 0 1
        · have HXJ2 : Hid (st (j + 1) = st j) := by unfold Hid; rw [HXJ.out, hr1]; rfl
          have HR1 := Lib.hid hr1
          clear hr1
          go_wp2_with fail
          go_quiet ((go_at_call 70; exact quietLeft (HWF.out _ _ HR1.out)))
          have HS3 := Lib.hid (HD2.out nq)
          generalize wr.drewN nq = w3 at *
          go_wp2_with fail
          go_roundw
          case rel => exact ⟨j + 1, z + 1, by omega, by have := HZ.out; omega, by go_num, by rw [HXJ2.out]; exact HS3⟩
          case measure => have := HZ.out; simp [intOf]; omega
        · have hb1 := (inB_iff _ _ _).1 hr1
          have HR1 := Lib.hid hr1
          cases hr2 : inB (c + z) 0 1
          · have HXJ2 : Hid (st (j + 1) = st j) := by unfold Hid; rw [HXJ.out, hr1, hr2]; rfl
            have HR2 := Lib.hid hr2
            clear hr1 hr2 hb1
            go_wp2_with fail
            go_quiet ((go_at_call 70; first | exact quietLeft (HWT.out _ _ HR1.out) | exact quietLeft (HWF.out _ _ HR2.out)))
            have HS3 := Lib.hid (HD2.out nq)
            generalize wr.drewN nq = w3 at *
            go_wp2_with fail
            go_roundw
            case rel => exact ⟨j + 1, z + 1, by omega, by have := HZ.out; omega, by go_num, by rw [HXJ2.out]; exact HS3⟩
            case measure => have := HZ.out; simp [intOf]; omega
          · have hb2 := (inB_iff _ _ _).1 hr2
            have HR2 := Lib.hid hr2
            have HXJ2 : Hid (st (j + 1) = ((rec SZ (setA (st j).1 n k z) (C.set x (c + z))).1, (st j).2 ++ (rec SZ (setA (st j).1 n k z) (C.set x (c + z))).2)) := by unfold Hid; rw [HXJ.out, hr1, hr2]; rfl
            have HB12 := Lib.hid (And.intro hb1 hb2)
            clear hr1 hr2 hb1 hb2
            go_wp2_with fail
            go_quiet ((go_at_call 70; first | exact quietLeft (HWT.out _ _ HR1.out) | exact quietLeft (HWT.out _ _ HR2.out)))
            have HS3 := Lib.hid (HD2.out nq)
            generalize wr.drewN nq = w3 at *
            clear p1 p2 cn2 HD2
            obtain ⟨gi, ci, q1, q2, q3, q4, m1, m2, m3, m4, HN⟩ := HS3.out.num hL hy hx
            unfold maxLen at q2 q4
            have cn3 : w3.cell? ⟨L.pn, 0, none⟩ = some (.int .i64 n) := cell_of_one HS3.out.1.en
            have hyn : (y : Int) < (n : Int) := by omega
            have hxn : (x : Int) < (n : Int) := by omega
            have wy : IntKind.i64.wrap (y : Int) = (y : Int) := IntWalk.i64_in _ (by omega)
            go_upto_region 10 with (fail)
            go_still_tail 11, (by kernel_rfl)
            change wpList _ _ _ _ _ w3.drew
            have m3' : w3.drew.cell? ⟨gi, x, none⟩ = some (.int .i64 (el (rw' (st j).1 y) x)) := m3
            have m4' : w3.drew.frozen? ⟨gi, x, none⟩ = false := m4
            have HS5 : Hid (ASt w0 L n (w3.drew.setCell ⟨gi, x, none⟩ (.int .i64 z)) (setA (st j).1 n k z) C (os ++ (st j).2)) := by unfold Hid; rw [HSET.out]; exact (HN.out z).below (Below.refl _ _).drew
            clear m1 m2 m3 m4 q1 q2 q3 q4 cn3 HN HS3
            generalize w3.drew = w4 at *
            go_upto_region 11 with (fail)
            generalize w4.setCell ⟨gi, x, none⟩ (.int .i64 z) = w5 at *
            clear m3' m4'
            obtain ⟨p1, p2, p3, HCN⟩ := HS5.out.col hL HCL.out hx
            rw [HCE.out] at p2
            have cn5 : w5.cell? ⟨L.pn, 0, none⟩ = some (.int .i64 n) := cell_of_one HS5.out.1.en
            go_still_tail 9, (by kernel_rfl)
            change wpList _ _ _ _ _ w5.drew
            have p2' : w5.drew.cell? ⟨L.gc, x, none⟩ = some (.int .i64 c) := p2
            have p3' : w5.drew.frozen? ⟨L.gc, x, none⟩ = false := p3
            have HS6 : Hid (ASt w0 L n (w5.drew.setCell ⟨L.gc, x, none⟩ (.int .i64 (c + z))) (setA (st j).1 n k z) (C.set x (c + z)) (os ++ (st j).2)) := (HCN.out (c + z)).below (Below.refl _ _).drew
            clear p1 p2 p3 HCN cn5 HS5
            generalize w5.drew = w6 at *
            have hfn := HS6.out.func
            unfold aclos at hfn
            go_wp2_with fail
            refine (HI.out _ _ _ _ _ HS6.out (by rw [List.length_set]; exact HCL.out) (HC01.out.set x HB12.out.2.1 HB12.out.2.2) HB12.out.1.1 HB12.out.1.2 (by
              have h1 := HXL.out j
              have h2 : j * 3 ^ d ≤ 2 * 3 ^ d := Nat.mul_le_mul_right _ (by omega)
              have h3 := HO.out
              rw [List.length_append]
              generalize 3 ^ d = q at *
              omega)).mono ?_
            rintro e8 w8 ⟨rfl, hS8⟩
            have HS8 := Lib.hid hS8
            clear hS8 hfn p2' p3' HS6
            obtain ⟨p1, p2, p3, HCN⟩ := HS8.out.col hL (by rw [List.length_set]; exact HCL.out) hx
            have hel : el (C.set x (c + z)) x = c + z := by have := HCL.out; simp [el, show x < C.length by omega]
            rw [hel] at p2
            clear hel
            have cn8 : w8.cell? ⟨L.pn, 0, none⟩ = some (.int .i64 n) := cell_of_one HS8.out.1.en
            have wc8 : IntKind.i64.wrap c = c := IntWalk.i64_in _ (by have := HC0.out; omega)
            have wc9 : IntKind.i64.wrap (c + z - z) = c := by rw [show c + z - z = c by omega]; exact wc8
            go_upto_region 13 with (fail)
            go_still_tail 9, (by kernel_rfl)
            change wpList _ _ _ _ _ w8.drew
            have p2' : w8.drew.cell? ⟨L.gc, x, none⟩ = some (.int .i64 (c + z)) := p2
            have p3' : w8.drew.frozen? ⟨L.gc, x, none⟩ = false := p3
            have HS9 : Hid (ASt w0 L n (w8.drew.setCell ⟨L.gc, x, none⟩ (.int .i64 c)) (st (j + 1)).1 C (os ++ (st (j + 1)).2)) := by
              have := (HCN.out c).below (Below.refl _ _).drew
              rw [HBK.out, List.append_assoc] at this
              unfold Hid
              rw [HXJ2.out]
              exact this
            clear p1 p2 p3 HCN cn8 HS8
            generalize w8.drew = w9 at *
            go_wp2_with fail
            go_roundw
            case rel => exact ⟨j + 1, z + 1, by omega, by have := HZ.out; omega, by go_num, HS9⟩
            case measure => have := HZ.out; simp [intOf]; omega
      · obtain rfl : j = 3 := by omega
        have ht : decide (z ≤ 1) = false := by simp only [decide_eq_false_iff_not]; omega
        go_wp2_with fail
        go_end0
        exact ⟨rfl, HS2.out⟩
  · have HF : Hid (altR n (d + 1) k s M C = altStep n k s C rec M 3) := HAR.out s (by simp [newRow, hr]) (by simp [newRow, hr])
    have t1 : decide (0 < k) = true := by simp only [decide_eq_true_eq]; omega
    have t2 : (((k % n : Nat) : Int) == 0) = false := by rw [beq_eq_false_iff_ne]; omega
    clear hr
    generalize k / n = y at *
    generalize k % n = x at *
    generalize hce : el C x = c at *
    have HCE := Lib.hid hce
    clear hce
    obtain ⟨st, HSTE⟩ : ∃ st : Nat → List (List Int) × List (List (List Int)), Hid (st = fun j => altStep n k s C rec M j) := ⟨_, rfl⟩
    have HX0 : Hid (st 0 = (M, [])) := by unfold Hid; rw [HSTE.out]; exact HS00.out s
    have HX1 : Hid (∀ j : Nat, st (j + 1) = if inB (s + ((j : Int) - 1)) 0 1 && inB (c + ((j : Int) - 1)) 0 1 then ((rec (s + ((j : Int) - 1)) (setA (st j).1 n k ((j : Int) - 1)) (C.set x (c + ((j : Int) - 1)))).1, (st j).2 ++ (rec (s + ((j : Int) - 1)) (setA (st j).1 n k ((j : Int) - 1)) (C.set x (c + ((j : Int) - 1)))).2) else st j) := fun j => by rw [HSTE.out]; exact HSS.out s j
    have HXL : Hid (∀ j, (st j).2.length ≤ j * 3 ^ d) := fun j => by rw [HSTE.out]; exact HLN.out s j
    have HX3 : Hid (altR n (d + 1) k s M C = st 3) := by unfold Hid; rw [HF.out, HSTE.out]
    suffices HQ : Calls Try.prog 124 #[.int .i64 k, .int .i64 s, .pointer (some ⟨L.pn, 0, none⟩), .pointer (some ⟨L.pm, 0, none⟩), .pointer (some ⟨L.po, 0, none⟩), .pointer (some ⟨L.pc, 0, none⟩), .pointer (some ⟨L.ps, 0, none⟩)] wr (APost2 w0 L n (st 3) C os) from HQ.mono fun e w' h => ⟨h.1, by rw [HX3.out]; exact h.2⟩
    clear HF HSTE HAR HLN HSS HS00 HREC HRL HX3
    go_enter Try.func124, Try.ntmps124
    go_wp2_with fail
    go_loopw [9] (fun i wr2 => ∃ (j : Nat) (z : Int), j ≤ 3 ∧ z = (j : Int) - 1 ∧ i = .int .i64 z ∧ Hid (ASt w0 L n wr2 (st j).1 C (os ++ (st j).2))) (fun i _ => 3 - (intOf i + 1).toNat)
    case atStart => exact ⟨0, -1, Nat.zero_le _, rfl, rfl, by (unfold Hid; rw [HX0.out]; simpa using HS.out)⟩
    case round =>
      obtain ⟨j, z, hj, hz, rfl, HS2⟩ := hrel
      by_cases hlt : j < 3
      · have ht : decide (z ≤ 1) = true := by simp only [decide_eq_true_eq]; omega
        have HXJ := Lib.hid (HX1.out j)
        rw [← hz] at HXJ
        have hz0 : -1 ≤ z := by omega
        have hz1 : z ≤ 1 := by omega
        have HZ := Lib.hid hz
        clear hz
        have HD2 : Hid (∀ q, ASt w0 L n (wr.drewN q) (st j).1 C (os ++ (st j).2)) := fun q => HS2.out.drewN q
        obtain ⟨p1, p2, _, _⟩ := HS2.out.col hL HCL.out hx
        have cn2 : wr.cell? ⟨L.pn, 0, none⟩ = some (.int .i64 n) := cell_of_one HS2.out.1.en
        rw [HCE.out] at p2
        obtain ⟨SZ, HSZ⟩ : ∃ t, Hid (s + z = t) := ⟨_, rfl⟩
        have wsz : IntKind.i64.wrap (s + z) = SZ := by rw [IntWalk.i64_in _ (by omega)]; have := HSZ.out; omega
        have wcz : IntKind.i64.wrap (c + z) = c + z := IntWalk.i64_in _ (by omega)
        rw [HSZ.out] at HXJ
        have HC0 := Lib.hid (And.intro hc0 hc1)
        have HWT : Hid (∀ q W, inB q 0 1 = true → Calls Try.prog 70 #[.int .i64 q, .int .i64 0, .int .i64 1] W (fun e w' => e = .returned (.bool true) ∧ W = w')) := fun q W h => by have := within_any q 0 1 W; rw [h] at this; exact this
        have HWF : Hid (∀ q W, inB q 0 1 = false → Calls Try.prog 70 #[.int .i64 q, .int .i64 0, .int .i64 1] W (fun e w' => e = .returned (.bool false) ∧ W = w')) := fun q W h => by have := within_any q 0 1 W; rw [h] at this; exact this
        cases hr1 : inB SZ 0 1
        · have HXJ2 : Hid (st (j + 1) = st j) := by unfold Hid; rw [HXJ.out, hr1]; rfl
          have HR1 := Lib.hid hr1
          clear hr1
          go_wp2_with fail
          go_quiet ((go_at_call 70; exact quietLeft (HWF.out _ _ HR1.out)))
          have HS3 := Lib.hid (HD2.out nq)
          generalize wr.drewN nq = w3 at *
          go_wp2_with fail
          go_roundw
          case rel => exact ⟨j + 1, z + 1, by omega, by have := HZ.out; omega, by go_num, by rw [HXJ2.out]; exact HS3⟩
          case measure => have := HZ.out; simp [intOf]; omega
        · have hb1 := (inB_iff _ _ _).1 hr1
          have HR1 := Lib.hid hr1
          cases hr2 : inB (c + z) 0 1
          · have HXJ2 : Hid (st (j + 1) = st j) := by unfold Hid; rw [HXJ.out, hr1, hr2]; rfl
            have HR2 := Lib.hid hr2
            clear hr1 hr2 hb1
            go_wp2_with fail
            go_quiet ((go_at_call 70; first | exact quietLeft (HWT.out _ _ HR1.out) | exact quietLeft (HWF.out _ _ HR2.out)))
            have HS3 := Lib.hid (HD2.out nq)
            generalize wr.drewN nq = w3 at *
            go_wp2_with fail
            go_roundw
            case rel => exact ⟨j + 1, z + 1, by omega, by have := HZ.out; omega, by go_num, by rw [HXJ2.out]; exact HS3⟩
            case measure => have := HZ.out; simp [intOf]; omega
          · have hb2 := (inB_iff _ _ _).1 hr2
            have HR2 := Lib.hid hr2
            have HXJ2 : Hid (st (j + 1) = ((rec SZ (setA (st j).1 n k z) (C.set x (c + z))).1, (st j).2 ++ (rec SZ (setA (st j).1 n k z) (C.set x (c + z))).2)) := by unfold Hid; rw [HXJ.out, hr1, hr2]; rfl
            have HB12 := Lib.hid (And.intro hb1 hb2)
            clear hr1 hr2 hb1 hb2
            go_wp2_with fail
            go_quiet ((go_at_call 70; first | exact quietLeft (HWT.out _ _ HR1.out) | exact quietLeft (HWT.out _ _ HR2.out)))
            have HS3 := Lib.hid (HD2.out nq)
            generalize wr.drewN nq = w3 at *
            clear p1 p2 cn2 HD2
            obtain ⟨gi, ci, q1, q2, q3, q4, m1, m2, m3, m4, HN⟩ := HS3.out.num hL hy hx
            unfold maxLen at q2 q4
            have cn3 : w3.cell? ⟨L.pn, 0, none⟩ = some (.int .i64 n) := cell_of_one HS3.out.1.en
            have hyn : (y : Int) < (n : Int) := by omega
            have hxn : (x : Int) < (n : Int) := by omega
            have wy : IntKind.i64.wrap (y : Int) = (y : Int) := IntWalk.i64_in _ (by omega)
            go_upto_region 10 with (fail)
            go_still_tail 11, (by kernel_rfl)
            change wpList _ _ _ _ _ w3.drew
            have m3' : w3.drew.cell? ⟨gi, x, none⟩ = some (.int .i64 (el (rw' (st j).1 y) x)) := m3
            have m4' : w3.drew.frozen? ⟨gi, x, none⟩ = false := m4
            have HS5 : Hid (ASt w0 L n (w3.drew.setCell ⟨gi, x, none⟩ (.int .i64 z)) (setA (st j).1 n k z) C (os ++ (st j).2)) := by unfold Hid; rw [HSET.out]; exact (HN.out z).below (Below.refl _ _).drew
            clear m1 m2 m3 m4 q1 q2 q3 q4 cn3 HN HS3
            generalize w3.drew = w4 at *
            go_upto_region 11 with (fail)
            generalize w4.setCell ⟨gi, x, none⟩ (.int .i64 z) = w5 at *
            clear m3' m4'
            obtain ⟨p1, p2, p3, HCN⟩ := HS5.out.col hL HCL.out hx
            rw [HCE.out] at p2
            have cn5 : w5.cell? ⟨L.pn, 0, none⟩ = some (.int .i64 n) := cell_of_one HS5.out.1.en
            go_still_tail 9, (by kernel_rfl)
            change wpList _ _ _ _ _ w5.drew
            have p2' : w5.drew.cell? ⟨L.gc, x, none⟩ = some (.int .i64 c) := p2
            have p3' : w5.drew.frozen? ⟨L.gc, x, none⟩ = false := p3
            have HS6 : Hid (ASt w0 L n (w5.drew.setCell ⟨L.gc, x, none⟩ (.int .i64 (c + z))) (setA (st j).1 n k z) (C.set x (c + z)) (os ++ (st j).2)) := (HCN.out (c + z)).below (Below.refl _ _).drew
            clear p1 p2 p3 HCN cn5 HS5
            generalize w5.drew = w6 at *
            have hfn := HS6.out.func
            unfold aclos at hfn
            go_wp2_with fail
            refine (HI.out _ _ _ _ _ HS6.out (by rw [List.length_set]; exact HCL.out) (HC01.out.set x HB12.out.2.1 HB12.out.2.2) HB12.out.1.1 HB12.out.1.2 (by
              have h1 := HXL.out j
              have h2 : j * 3 ^ d ≤ 2 * 3 ^ d := Nat.mul_le_mul_right _ (by omega)
              have h3 := HO.out
              rw [List.length_append]
              generalize 3 ^ d = q at *
              omega)).mono ?_
            rintro e8 w8 ⟨rfl, hS8⟩
            have HS8 := Lib.hid hS8
            clear hS8 hfn p2' p3' HS6
            obtain ⟨p1, p2, p3, HCN⟩ := HS8.out.col hL (by rw [List.length_set]; exact HCL.out) hx
            have hel : el (C.set x (c + z)) x = c + z := by have := HCL.out; simp [el, show x < C.length by omega]
            rw [hel] at p2
            clear hel
            have cn8 : w8.cell? ⟨L.pn, 0, none⟩ = some (.int .i64 n) := cell_of_one HS8.out.1.en
            have wc8 : IntKind.i64.wrap c = c := IntWalk.i64_in _ (by have := HC0.out; omega)
            have wc9 : IntKind.i64.wrap (c + z - z) = c := by rw [show c + z - z = c by omega]; exact wc8
            go_upto_region 13 with (fail)
            go_still_tail 9, (by kernel_rfl)
            change wpList _ _ _ _ _ w8.drew
            have p2' : w8.drew.cell? ⟨L.gc, x, none⟩ = some (.int .i64 (c + z)) := p2
            have p3' : w8.drew.frozen? ⟨L.gc, x, none⟩ = false := p3
            have HS9 : Hid (ASt w0 L n (w8.drew.setCell ⟨L.gc, x, none⟩ (.int .i64 c)) (st (j + 1)).1 C (os ++ (st (j + 1)).2)) := by
              have := (HCN.out c).below (Below.refl _ _).drew
              rw [HBK.out, List.append_assoc] at this
              unfold Hid
              rw [HXJ2.out]
              exact this
            clear p1 p2 p3 HCN cn8 HS8
            generalize w8.drew = w9 at *
            go_wp2_with fail
            go_roundw
            case rel => exact ⟨j + 1, z + 1, by omega, by have := HZ.out; omega, by go_num, HS9⟩
            case measure => have := HZ.out; simp [intOf]; omega
      · obtain rfl : j = 3 := by omega
        have ht : decide (z ≤ 1) = false := by simp only [decide_eq_false_iff_not]; omega
        go_wp2_with fail
        go_end0
        exact ⟨rfl, HS2.out⟩
  · have HF : Hid (altR n (d + 1) k s M C = (M, [])) := by unfold Hid; rw [altR]; have : (newRow n k && (s != 1)) = true := by simp [newRow, hr, hs, hr0]
                                                           rw [this]; rfl
    have t1 : decide (0 < k) = true := by simp only [decide_eq_true_eq]; omega
    have t2 : (((k % n : Nat) : Int) == 0) = true := by rw [beq_iff_eq]; omega
    have t3 : (s != 1) = true := by simp [hs]
    clear hr hs
    generalize k % n = x at *
    go_enter Try.func124, Try.ntmps124
    go_wp2_with fail
    go_end0
    refine ⟨rfl, ?_⟩
    rw [HF.out]
    simpa using HS.out
  · have HF : Hid (altR n (d + 1) k s M C = altStep n k 0 C rec M 3) := HAR.out 0 (by simp [hs]) (by simp [newRow, hr, hr0])
    have t1 : decide (0 < k) = true := by simp only [decide_eq_true_eq]; omega
    have t2 : (((k % n : Nat) : Int) == 0) = true := by rw [beq_iff_eq]; omega
    subst hs
    clear hr
    generalize k / n = y at *
    generalize k % n = x at *
    generalize hce : el C x = c at *
    have HCE := Lib.hid hce
    clear hce
    obtain ⟨st, HSTE⟩ : ∃ st : Nat → List (List Int) × List (List (List Int)), Hid (st = fun j => altStep n k 0 C rec M j) := ⟨_, rfl⟩
    have HX0 : Hid (st 0 = (M, [])) := by unfold Hid; rw [HSTE.out]; exact HS00.out 0
    have HX1 : Hid (∀ j : Nat, st (j + 1) = if inB (0 + ((j : Int) - 1)) 0 1 && inB (c + ((j : Int) - 1)) 0 1 then ((rec (0 + ((j : Int) - 1)) (setA (st j).1 n k ((j : Int) - 1)) (C.set x (c + ((j : Int) - 1)))).1, (st j).2 ++ (rec (0 + ((j : Int) - 1)) (setA (st j).1 n k ((j : Int) - 1)) (C.set x (c + ((j : Int) - 1)))).2) else st j) := fun j => by rw [HSTE.out]; exact HSS.out 0 j
    have HXL : Hid (∀ j, (st j).2.length ≤ j * 3 ^ d) := fun j => by rw [HSTE.out]; exact HLN.out 0 j
    have HX3 : Hid (altR n (d + 1) k 1 M C = st 3) := by unfold Hid; rw [HF.out, HSTE.out]
    suffices HQ : Calls Try.prog 124 #[.int .i64 k, .int .i64 1, .pointer (some ⟨L.pn, 0, none⟩), .pointer (some ⟨L.pm, 0, none⟩), .pointer (some ⟨L.po, 0, none⟩), .pointer (some ⟨L.pc, 0, none⟩), .pointer (some ⟨L.ps, 0, none⟩)] wr (APost2 w0 L n (st 3) C os) from HQ.mono fun e w' h => ⟨h.1, by rw [HX3.out]; exact h.2⟩
    clear HF HSTE HAR HLN HSS HS00 HREC HRL HX3
    go_enter Try.func124, Try.ntmps124
    go_wp2_with fail
    go_loopw [9] (fun i wr2 => ∃ (j : Nat) (z : Int), j ≤ 3 ∧ z = (j : Int) - 1 ∧ i = .int .i64 z ∧ Hid (ASt w0 L n wr2 (st j).1 C (os ++ (st j).2))) (fun i _ => 3 - (intOf i + 1).toNat)
    case atStart => exact ⟨0, -1, Nat.zero_le _, rfl, rfl, by (unfold Hid; rw [HX0.out]; simpa using HS.out)⟩
    case round =>
      obtain ⟨j, z, hj, hz, rfl, HS2⟩ := hrel
      by_cases hlt : j < 3
      · have ht : decide (z ≤ 1) = true := by simp only [decide_eq_true_eq]; omega
        have HXJ := Lib.hid (HX1.out j)
        rw [← hz] at HXJ
        have hz0 : -1 ≤ z := by omega
        have hz1 : z ≤ 1 := by omega
        have HZ := Lib.hid hz
        clear hz
        have HD2 : Hid (∀ q, ASt w0 L n (wr.drewN q) (st j).1 C (os ++ (st j).2)) := fun q => HS2.out.drewN q
        obtain ⟨p1, p2, _, _⟩ := HS2.out.col hL HCL.out hx
        have cn2 : wr.cell? ⟨L.pn, 0, none⟩ = some (.int .i64 n) := cell_of_one HS2.out.1.en
        rw [HCE.out] at p2
        obtain ⟨SZ, HSZ⟩ : ∃ t, Hid (0 + z = t) := ⟨_, rfl⟩
        have wsz : IntKind.i64.wrap (z) = SZ := by rw [IntWalk.i64_in _ (by omega)]; have := HSZ.out; omega
        have wcz : IntKind.i64.wrap (c + z) = c + z := IntWalk.i64_in _ (by omega)
        rw [HSZ.out] at HXJ
        have HC0 := Lib.hid (And.intro hc0 hc1)
        have HWT : Hid (∀ q W, inB q 0 1 = true → Calls Try.prog 70 #[.int .i64 q, .int .i64 0, .int .i64 1] W (fun e w' => e = .returned (.bool true) ∧ W = w')) := fun q W h => by have := within_any q 0 1 W; rw [h] at this; exact this
        have HWF : Hid (∀ q W, inB q 0 1 = false → Calls Try.prog 70 #[.int .i64 q, .int .i64 0, .int .i64 1] W (fun e w' => e = .returned (.bool false) ∧ W = w')) := fun q W h => by have := within_any q 0 1 W; rw [h] at this; exact this
        cases hr1 : inB SZ 0 1
        · have HXJ2 : Hid (st (j + 1) = st j) := by unfold Hid; rw [HXJ.out, hr1]; rfl
          have HR1 := Lib.hid hr1
          clear hr1
          go_wp2_with fail
          go_quiet ((go_at_call 70; exact quietLeft (HWF.out _ _ HR1.out)))
          have HS3 := Lib.hid (HD2.out nq)
          generalize wr.drewN nq = w3 at *
          go_wp2_with fail
          go_roundw
          case rel => exact ⟨j + 1, z + 1, by omega, by have := HZ.out; omega, by go_num, by rw [HXJ2.out]; exact HS3⟩
          case measure => have := HZ.out; simp [intOf]; omega
        · have hb1 := (inB_iff _ _ _).1 hr1
          have HR1 := Lib.hid hr1
          cases hr2 : inB (c + z) 0 1
          · have HXJ2 : Hid (st (j + 1) = st j) := by unfold Hid; rw [HXJ.out, hr1, hr2]; rfl
            have HR2 := Lib.hid hr2
            clear hr1 hr2 hb1
            go_wp2_with fail
            go_quiet ((go_at_call 70; first | exact quietLeft (HWT.out _ _ HR1.out) | exact quietLeft (HWF.out _ _ HR2.out)))
            have HS3 := Lib.hid (HD2.out nq)
            generalize wr.drewN nq = w3 at *
            go_wp2_with fail
            go_roundw
            case rel => exact ⟨j + 1, z + 1, by omega, by have := HZ.out; omega, by go_num, by rw [HXJ2.out]; exact HS3⟩
            case measure => have := HZ.out; simp [intOf]; omega
          · have hb2 := (inB_iff _ _ _).1 hr2
            have HR2 := Lib.hid hr2
            have HXJ2 : Hid (st (j + 1) = ((rec SZ (setA (st j).1 n k z) (C.set x (c + z))).1, (st j).2 ++ (rec SZ (setA (st j).1 n k z) (C.set x (c + z))).2)) := by unfold Hid; rw [HXJ.out, hr1, hr2]; rfl
            have HB12 := Lib.hid (And.intro hb1 hb2)
            clear hr1 hr2 hb1 hb2
            go_wp2_with fail
            go_quiet ((go_at_call 70; first | exact quietLeft (HWT.out _ _ HR1.out) | exact quietLeft (HWT.out _ _ HR2.out)))
            have HS3 := Lib.hid (HD2.out nq)
            generalize wr.drewN nq = w3 at *
            clear p1 p2 cn2 HD2
            obtain ⟨gi, ci, q1, q2, q3, q4, m1, m2, m3, m4, HN⟩ := HS3.out.num hL hy hx
            unfold maxLen at q2 q4
            have cn3 : w3.cell? ⟨L.pn, 0, none⟩ = some (.int .i64 n) := cell_of_one HS3.out.1.en
            have hyn : (y : Int) < (n : Int) := by omega
            have hxn : (x : Int) < (n : Int) := by omega
            have wy : IntKind.i64.wrap (y : Int) = (y : Int) := IntWalk.i64_in _ (by omega)
            go_upto_region 10 with (fail)
            go_still_tail 11, (by kernel_rfl)
            change wpList _ _ _ _ _ w3.drew
            have m3' : w3.drew.cell? ⟨gi, x, none⟩ = some (.int .i64 (el (rw' (st j).1 y) x)) := m3
            have m4' : w3.drew.frozen? ⟨gi, x, none⟩ = false := m4
            have HS5 : Hid (ASt w0 L n (w3.drew.setCell ⟨gi, x, none⟩ (.int .i64 z)) (setA (st j).1 n k z) C (os ++ (st j).2)) := by unfold Hid; rw [HSET.out]; exact (HN.out z).below (Below.refl _ _).drew
            clear m1 m2 m3 m4 q1 q2 q3 q4 cn3 HN HS3
            generalize w3.drew = w4 at *
            go_upto_region 11 with (fail)
            generalize w4.setCell ⟨gi, x, none⟩ (.int .i64 z) = w5 at *
            clear m3' m4'
            obtain ⟨p1, p2, p3, HCN⟩ := HS5.out.col hL HCL.out hx
            rw [HCE.out] at p2
            have cn5 : w5.cell? ⟨L.pn, 0, none⟩ = some (.int .i64 n) := cell_of_one HS5.out.1.en
            go_still_tail 9, (by kernel_rfl)
            change wpList _ _ _ _ _ w5.drew
            have p2' : w5.drew.cell? ⟨L.gc, x, none⟩ = some (.int .i64 c) := p2
            have p3' : w5.drew.frozen? ⟨L.gc, x, none⟩ = false := p3
            have HS6 : Hid (ASt w0 L n (w5.drew.setCell ⟨L.gc, x, none⟩ (.int .i64 (c + z))) (setA (st j).1 n k z) (C.set x (c + z)) (os ++ (st j).2)) := (HCN.out (c + z)).below (Below.refl _ _).drew
            clear p1 p2 p3 HCN cn5 HS5
            generalize w5.drew = w6 at *
            have hfn := HS6.out.func
            unfold aclos at hfn
            go_wp2_with fail
            refine (HI.out _ _ _ _ _ HS6.out (by rw [List.length_set]; exact HCL.out) (HC01.out.set x HB12.out.2.1 HB12.out.2.2) HB12.out.1.1 HB12.out.1.2 (by
              have h1 := HXL.out j
              have h2 : j * 3 ^ d ≤ 2 * 3 ^ d := Nat.mul_le_mul_right _ (by omega)
              have h3 := HO.out
              rw [List.length_append]
              generalize 3 ^ d = q at *
              omega)).mono ?_
            rintro e8 w8 ⟨rfl, hS8⟩
            have HS8 := Lib.hid hS8
            clear hS8 hfn p2' p3' HS6
            obtain ⟨p1, p2, p3, HCN⟩ := HS8.out.col hL (by rw [List.length_set]; exact HCL.out) hx
            have hel : el (C.set x (c + z)) x = c + z := by have := HCL.out; simp [el, show x < C.length by omega]
            rw [hel] at p2
            clear hel
            have cn8 : w8.cell? ⟨L.pn, 0, none⟩ = some (.int .i64 n) := cell_of_one HS8.out.1.en
            have wc8 : IntKind.i64.wrap c = c := IntWalk.i64_in _ (by have := HC0.out; omega)
            have wc9 : IntKind.i64.wrap (c + z - z) = c := by rw [show c + z - z = c by omega]; exact wc8
            go_upto_region 13 with (fail)
            go_still_tail 9, (by kernel_rfl)
            change wpList _ _ _ _ _ w8.drew
            have p2' : w8.drew.cell? ⟨L.gc, x, none⟩ = some (.int .i64 (c + z)) := p2
            have p3' : w8.drew.frozen? ⟨L.gc, x, none⟩ = false := p3
            have HS9 : Hid (ASt w0 L n (w8.drew.setCell ⟨L.gc, x, none⟩ (.int .i64 c)) (st (j + 1)).1 C (os ++ (st (j + 1)).2)) := by
              have := (HCN.out c).below (Below.refl _ _).drew
              rw [HBK.out, List.append_assoc] at this
              unfold Hid
              rw [HXJ2.out]
              exact this
            clear p1 p2 p3 HCN cn8 HS8
            generalize w8.drew = w9 at *
            go_wp2_with fail
            go_roundw
            case rel => exact ⟨j + 1, z + 1, by omega, by have := HZ.out; omega, by go_num, HS9⟩
            case measure => have := HZ.out; simp [intOf]; omega
      · obtain rfl : j = 3 := by omega
        have ht : decide (z ≤ 1) = false := by simp only [decide_eq_false_iff_not]; omega
        go_wp2_with fail
        go_end0
        exact ⟨rfl, HS2.out⟩
/-- The closure, at every place. -/
theorem arest_any (w0 : World) (L : ALay) (hL : L.Ok w0.heap.size) (n : Nat) (hn : 1 ≤ n ∧ n ≤ 4) : ∀ (d k : Nat), k + d = n * n → ARest w0 L n d k
  | 0, k, hk => arest_end w0 L hL n hn k (by omega)
  | d + 1, k, hk => arest_step w0 L hL n hn d k hk (arest_any w0 L hL n hn d (k + 1) (by omega))
end Go.Proofs.Ytehnbalbpfmijaa

namespace Go.Proofs.Ytehnbalbpfmijaa
set_option linter.unusedVariables false

def pad (v d : Int × Int) : Int × Int := (v.1 + d.1, v.2 + d.2)
def perp (d : Int × Int) : Int × Int := (d.2, d.1)
def neg (d : Int × Int) : Int × Int := (-d.1, -d.2)
def dirs4 : List (Int × Int) := [(1, 0), (0, 1), (-1, 0), (0, -1)]
theorem dirs4_iff (d : Int × Int) : d ∈ dirs4 ↔ d = (1, 0) ∨ d = (0, 1) ∨ d = (-1, 0) ∨ d = (0, -1) := by simp [dirs4]
/-- The sides of the edge from v along d. -/
def sideA (v d : Int × Int) : Int × Int := pad (pad v d) (perp d)
def sideB (v d : Int × Int) : Int × Int := pad (pad v d) (neg (perp d))
/-- The edges at a node with unlike sides are not one alone. -/
theorem even_two (S : Int × Int → Bool) (v d : Int × Int) (hd : d ∈ dirs4) (h : S (sideA v d) ≠ S (sideB v d)) : ∃ e, e ∈ dirs4 ∧ e ≠ d ∧ S (sideA v e) ≠ S (sideB v e) := by
  obtain ⟨x, y⟩ := v
  have e1 : sideA (x, y) (1, 0) = (x + 1, y + 1) := by simp [sideA, pad, perp]
  have e2 : sideB (x, y) (1, 0) = (x + 1, y - 1) := by simp [sideB, pad, perp, neg]; omega
  have e3 : sideA (x, y) (0, 1) = (x + 1, y + 1) := by simp [sideA, pad, perp]
  have e4 : sideB (x, y) (0, 1) = (x - 1, y + 1) := by simp [sideB, pad, perp, neg]; omega
  have e5 : sideA (x, y) (-1, 0) = (x - 1, y - 1) := by simp [sideA, pad, perp]; omega
  have e6 : sideB (x, y) (-1, 0) = (x - 1, y + 1) := by simp [sideB, pad, perp, neg]; omega
  have e7 : sideA (x, y) (0, -1) = (x - 1, y - 1) := by simp [sideA, pad, perp]; omega
  have e8 : sideB (x, y) (0, -1) = (x + 1, y - 1) := by simp [sideB, pad, perp, neg]; omega
  have n12 : ((1, 0) : Int × Int) ≠ (0, 1) := by decide
  have n13 : ((1, 0) : Int × Int) ≠ (-1, 0) := by decide
  have n14 : ((1, 0) : Int × Int) ≠ (0, -1) := by decide
  have n23 : ((0, 1) : Int × Int) ≠ (-1, 0) := by decide
  have n24 : ((0, 1) : Int × Int) ≠ (0, -1) := by decide
  have n34 : ((-1, 0) : Int × Int) ≠ (0, -1) := by decide
  have m1 : ((1, 0) : Int × Int) ∈ dirs4 := by decide
  have m2 : ((0, 1) : Int × Int) ∈ dirs4 := by decide
  have m3 : ((-1, 0) : Int × Int) ∈ dirs4 := by decide
  have m4 : ((0, -1) : Int × Int) ∈ dirs4 := by decide
  generalize ha : S (x + 1, y + 1) = a
  generalize hb : S (x + 1, y - 1) = b
  generalize hc : S (x - 1, y - 1) = c
  generalize hf : S (x - 1, y + 1) = f
  rcases (dirs4_iff d).1 hd with rfl | rfl | rfl | rfl
  · rw [e1, e2, ha, hb] at h
    by_cases q : a = f
    · by_cases q2 : c = f
      · refine ⟨(0, -1), m4, n14.symm, ?_⟩; rw [e7, e8, hc, hb, q2, ← q]; exact h
      · refine ⟨(-1, 0), m3, n13.symm, ?_⟩; rw [e5, e6, hc, hf]; exact q2
    · refine ⟨(0, 1), m2, n12.symm, ?_⟩; rw [e3, e4, ha, hf]; exact q
  · rw [e3, e4, ha, hf] at h
    by_cases q : a = b
    · by_cases q2 : c = f
      · refine ⟨(0, -1), m4, n24.symm, ?_⟩; rw [e7, e8, hc, hb, q2, ← q]; exact h.symm
      · refine ⟨(-1, 0), m3, n23.symm, ?_⟩; rw [e5, e6, hc, hf]; exact q2
    · refine ⟨(1, 0), m1, n12, ?_⟩; rw [e1, e2, ha, hb]; exact q
  · rw [e5, e6, hc, hf] at h
    by_cases q : a = f
    · by_cases q2 : c = b
      · refine ⟨(1, 0), m1, n13, ?_⟩; rw [e1, e2, ha, hb, q, ← q2]; exact h.symm
      · refine ⟨(0, -1), m4, n34.symm, ?_⟩; rw [e7, e8, hc, hb]; exact q2
    · refine ⟨(0, 1), m2, n23, ?_⟩; rw [e3, e4, ha, hf]; exact q
  · rw [e7, e8, hc, hb] at h
    by_cases q : a = b
    · by_cases q2 : c = f
      · refine ⟨(0, 1), m2, n24, ?_⟩; rw [e3, e4, ha, hf, q, ← q2]; exact h.symm
      · refine ⟨(-1, 0), m3, n34, ?_⟩; rw [e5, e6, hc, hf]; exact q2
    · refine ⟨(1, 0), m1, n14, ?_⟩; rw [e1, e2, ha, hb]; exact q
/-- Nodes of one parity that share an edge. -/
theorem two_ends {r : Int} {u v d e : Int × Int} (hu : u.1 % 2 = r ∧ u.2 % 2 = r) (hv : v.1 % 2 = r ∧ v.2 % 2 = r) (hd : d ∈ dirs4) (he : e ∈ dirs4) (h : pad u d = pad v e) : (u = v ∧ d = e) ∨ (u = pad (pad v e) e ∧ d = neg e ∧ v = pad (pad u d) d) := by
  obtain ⟨u1, u2⟩ := u
  obtain ⟨v1, v2⟩ := v
  obtain ⟨h1, h2⟩ := hu
  obtain ⟨h3, h4⟩ := hv
  rcases (dirs4_iff d).1 hd with rfl | rfl | rfl | rfl <;> rcases (dirs4_iff e).1 he with rfl | rfl | rfl | rfl <;>
    simp [pad, neg] at h h1 h2 h3 h4 ⊢ <;> omega
theorem side_neg {v e : Int × Int} : sideA (pad (pad v e) e) (neg e) = sideB v e ∧ sideB (pad (pad v e) e) (neg e) = sideA v e := by
  obtain ⟨x, y⟩ := v
  obtain ⟨a, b⟩ := e
  constructor <;> simp [sideA, sideB, pad, neg, perp] <;> omega
/-- No edge of the rooted nodes has unlike sides, where all edges with unlike sides are owned. -/
theorem peel (V T : Int × Int → Prop) (d : Int × Int → Int × Int) (rk : Int × Int → Nat) (M : Nat) (r : Int)
    (hV : ∀ v, V v → v.1 % 2 = r ∧ v.2 % 2 = r) (hd : ∀ v, V v → d v ∈ dirs4)
    (pre : ∀ u, V u → V (pad (pad u (d u)) (d u)) → T (pad (pad u (d u)) (d u)) → T u)
    (hr : ∀ u, V u → T u → V (pad (pad u (d u)) (d u)) → rk (pad (pad u (d u)) (d u)) < rk u)
    (hM : ∀ u, V u → T u → rk u ≤ M) (S : Int × Int → Bool)
    (own : ∀ v e, v.1 % 2 = r → v.2 % 2 = r → e ∈ dirs4 → S (sideA v e) ≠ S (sideB v e) → ∃ u, V u ∧ pad u (d u) = pad v e) :
    ∀ v, V v → T v → S (sideA v (d v)) = S (sideB v (d v)) := by
  have key : ∀ j v, V v → T v → M < rk v + j → S (sideA v (d v)) = S (sideB v (d v)) := by
    intro j
    induction j with
    | zero => intro v h1 h2 h3; have := hM v h1 h2; omega
    | succ j ih =>
      intro v h1 h2 h3
      refine Decidable.byContradiction fun h => ?_
      obtain ⟨e, he1, he2, he3⟩ := even_two S v (d v) (hd v h1) h
      obtain ⟨u, hu, hue⟩ := own v e (hV v h1).1 (hV v h1).2 he1 he3
      rcases two_ends (hV u hu) (hV v h1) (hd u hu) he1 hue with ⟨rfl, q⟩ | ⟨q1, q2, q3⟩
      · exact he2 q.symm
      · have hvu : V (pad (pad u (d u)) (d u)) := by rw [← q3]; exact h1
        have htu : T u := pre u hu hvu (by rw [← q3]; exact h2)
        have hru := hr u hu htu hvu
        rw [← q3] at hru
        have hS := ih u hu htu (by omega)
        rw [q2, q1, side_neg.1, side_neg.2] at hS
        exact he3 hS.symm
  intro v h1 h2
  exact key (M + 1) v h1 h2 (by omega)

/-! ### Counting -/
theorem sub_len {α : Type} [DecidableEq α] : ∀ (L E : List α), L.Nodup → (∀ x ∈ L, x ∈ E) → L.length ≤ E.length
  | [], _, _, _ => Nat.zero_le _
  | a :: L, E, hn, hs => by
    have h1 := List.nodup_cons.1 hn
    have ha := hs a (by simp)
    have := sub_len L (E.erase a) h1.2 fun x hx => (List.mem_erase_of_ne (fun (e : x = a) => h1.1 (by rw [← e]; exact hx))).2 (hs x (by simp [hx]))
    rw [List.length_erase_of_mem ha] at this
    have := List.length_pos_of_mem ha
    simp; omega
theorem all_hit {α : Type} [DecidableEq α] {L E : List α} (hn : L.Nodup) (hs : ∀ x ∈ L, x ∈ E) (hl : E.length ≤ L.length) {e : α} (he : e ∈ E) : e ∈ L := by
  refine Decidable.byContradiction fun h => ?_
  have := sub_len (e :: L) E (List.nodup_cons.2 ⟨h, hn⟩) fun x hx => by
    rcases List.mem_cons.1 hx with rfl | hx
    · exact he
    · exact hs x hx
  simp at this; omega
theorem map_nodup {α β : Type} {f : α → β} : ∀ {V : List α}, V.Nodup → (∀ u ∈ V, ∀ v ∈ V, f u = f v → u = v) → (V.map f).Nodup
  | [], _, _ => List.nodup_nil
  | a :: V, hn, hi => by
    have h1 := List.nodup_cons.1 hn
    rw [List.map_cons, List.nodup_cons]
    refine ⟨fun hm => ?_, map_nodup h1.2 fun u hu v hv => hi u (by simp [hu]) v (by simp [hv])⟩
    obtain ⟨b, hb, e⟩ := List.mem_map.1 hm
    have := hi b (by simp [hb]) a (by simp) e
    exact h1.1 (this ▸ hb)
/-- Where edges are as many as nodes, there is one rooting at most. -/
theorem one_rooting {α β : Type} [DecidableEq β] (V : List α) (E : List β) (hn : V.Nodup) (hl : E.length ≤ V.length) (e1 e2 : α → β) (h1 : ∀ v ∈ V, e1 v ∈ E) (h2 : ∀ v ∈ V, e2 v ∈ E)
    (i1 : ∀ u ∈ V, ∀ v ∈ V, e1 u = e1 v → u = v) (i2 : ∀ u ∈ V, ∀ v ∈ V, e2 u = e2 v → u = v) (rk : α → Nat) (hd : ∀ v ∈ V, ∀ u ∈ V, u ≠ v → e1 v = e2 u → rk u < rk v) : ∀ v ∈ V, e1 v = e2 v := by
  have key : ∀ n v, v ∈ V → rk v < n → e1 v = e2 v := by
    intro n
    induction n with
    | zero => intro v _ h; omega
    | succ n ih =>
      intro v hv hr
      obtain ⟨u, hu, he⟩ := List.mem_map.1 (all_hit (map_nodup hn i2) (fun x hx => by obtain ⟨w, hw, rfl⟩ := List.mem_map.1 hx; exact h2 w hw) (by rw [List.length_map]; exact hl) (h1 v hv))
      by_cases huv : u = v
      · subst huv; exact he.symm
      · have hlt := hd v hv u hu huv he.symm
        have := ih u hu (by omega)
        exact absurd (i1 u hu v hv (this.trans he)) huv
  intro v hv
  exact key (rk v + 1) v hv (by omega)
end Go.Proofs.Ytehnbalbpfmijaa

namespace Go.Proofs.Ytehnbalbpfmijaa
open Go.RowKit
set_option linter.unusedVariables false

/-- The operations that have come up. -/
def lsA (n : Nat) (xs : List Nat) : Array Bool := ((List.range n).map fun j => decide (j ∈ xs)).toArray
theorem lsA_get {n j : Nat} {xs : List Nat} (h : j < n) (b : Bool) : (lsA n xs).getD j b = decide (j ∈ xs) := by simp [lsA, h]
theorem lsA_out {n j : Nat} {xs : List Nat} (h : n ≤ j) (b : Bool) : (lsA n xs).getD j b = b := by
  have : ¬ j < n := by omega
  simp [lsA, this]
theorem lsA_set {n i : Nat} {xs : List Nat} : (lsA n xs).setIfInBounds i true = lsA n (i :: xs) := by
  apply Array.ext
  · simp [lsA]
  · intro j h1 h2
    simp only [lsA, List.size_toArray, List.length_map, List.length_range] at h2
    rw [Array.getElem_setIfInBounds]
    · by_cases e : i = j
      · subst e; simp [lsA]
      · have : ¬ j = i := fun q => e q.symm
        simp [lsA, e, this]
    · simpa [lsA] using h2
theorem lsA_congr {n : Nat} {xs ys : List Nat} (h : ∀ j, j ∈ xs ↔ j ∈ ys) : lsA n xs = lsA n ys := by
  unfold lsA
  congr 1
  apply List.map_congr_left
  intro j _
  rw [decide_eq_decide]; exact h j
/-- Every operation of T waits at least for those that deps tells, and for none but smaller ones of T and of D0. -/
def chkOrd (md : Region.Mode) (ops : Array Oper) (T D0 : List Nat) (deps : Nat → List Nat) : Bool :=
  (T.all fun i => match ops[i]? with | some o => (o.after.all fun e => !Region.binds md e || (decide (e.on < i) && (T.contains e.on || D0.contains e.on))) && ((deps i).all fun d => o.after.any fun e => Region.binds md e && e.on == d) | none => false) &&
  ((List.range ops.size).all fun j => T.contains j || D0.contains j)
theorem least_not {T ds : List Nat} (h : ∃ i, i ∈ T ∧ i ∉ ds) : ∃ i, i ∈ T ∧ i ∉ ds ∧ ∀ j ∈ T, j < i → j ∈ ds := by
  obtain ⟨i, hi⟩ := h
  have key : ∀ n i, i < n → i ∈ T ∧ i ∉ ds → ∃ i, i ∈ T ∧ i ∉ ds ∧ ∀ j ∈ T, j < i → j ∈ ds := by
    intro n
    induction n with
    | zero => intro i h; omega
    | succ n ih =>
      intro i hin hi
      by_cases hx : ∃ j, j ∈ T ∧ j < i ∧ j ∉ ds
      · obtain ⟨j, h1, h2, h3⟩ := hx
        exact ih j (by omega) ⟨h1, h3⟩
      · exact ⟨i, hi.1, hi.2, fun j h1 h2 => Decidable.byContradiction fun h3 => hx ⟨j, h1, h2, h3⟩⟩
  exact key (i + 1) i (by omega) hi
theorem wpAnyH_ord {P : Program} {md : Region.Mode} {ops : Array Oper} {Q : Exit → Act → World → Prop} {S : World → Prop} (n m : Nat) (T D0 : List Nat) (deps : Nat → List Nat) (hn : T.Nodup) (hd : ∀ i ∈ T, i ∉ D0) (hD0lt : ∀ j ∈ D0, j < n) (hsz : ops.size = n) (hchk : chkOrd md ops T D0 deps = true)
    (R : List Nat → Act → World → Prop)
    (hstep : ∀ ds a w, (∀ j ∈ ds, j ∈ T) → R ds a w → ∀ i ∈ T, i ∉ ds → (∀ d ∈ deps i, d ∈ ds ∨ d ∈ D0) → wpOp P ops Q i (fun a' w' => S w' ∧ R (i :: ds) a' w') a w)
    (hfin : ∀ ds a w, (∀ j ∈ ds, j ∈ T) → ds.Nodup → (∀ i ∈ T, i ∈ ds) → R ds a w → wpAnyH P md ops Q S m (lsA n (T ++ D0)) a w) :
    ∀ (k : Nat) (ds : List Nat) (a : Act) (w : World), (∀ j ∈ ds, j ∈ T) → ds.Nodup → ds.length + k = T.length → R ds a w → wpAnyH P md ops Q S (m + k) (lsA n (ds ++ D0)) a w := by
  unfold chkOrd at hchk
  simp only [Bool.and_eq_true, List.all_eq_true, List.mem_range] at hchk
  obtain ⟨hc1, hc2⟩ := hchk
  intro k
  induction k with
  | zero =>
    intro ds a w h1 h2 h3 hR
    have hall : ∀ i ∈ T, i ∈ ds := fun i hi => all_hit h2 h1 (by omega) hi
    rw [lsA_congr (ys := T ++ D0) (fun j => by
      rw [List.mem_append, List.mem_append]
      exact ⟨fun q => q.imp (h1 j) id, fun q => q.imp (hall j) id⟩)]
    exact hfin ds a w h1 h2 hall hR
  | succ k ih =>
    intro ds a w h1 h2 h3 hR
    have hex : ∃ i, i ∈ T ∧ i ∉ ds := by
      refine Decidable.byContradiction fun hno => ?_
      have : ∀ i ∈ T, i ∈ ds := fun i hi => Decidable.byContradiction fun q => hno ⟨i, hi, q⟩
      have := sub_len T ds hn this
      omega
    have hops : ∀ i ∈ T, ∃ o, ops[i]? = some o ∧ (∀ e ∈ o.after, Region.binds md e = true → e.on < i ∧ (e.on ∈ T ∨ e.on ∈ D0)) ∧ ∀ d ∈ deps i, ∃ e ∈ o.after, Region.binds md e = true ∧ e.on = d := fun i hi => by
      have := hc1 i hi
      split at this
      · rename_i o ho
        simp only [Bool.and_eq_true, List.all_eq_true] at this
        refine ⟨o, ho, fun e he hb => ?_, fun d hdd => ?_⟩
        · have := (Array.all_eq_true_iff_forall_mem.1 this.1) e he
          simp only [hb, Bool.not_true, Bool.false_or, Bool.and_eq_true, decide_eq_true_eq, Bool.or_eq_true, List.contains_iff_mem] at this
          exact this
        · obtain ⟨e, hem, hp⟩ := Array.any_eq_true'.1 (this.2 d hdd)
          simp only [Bool.and_eq_true, beq_iff_eq] at hp
          exact ⟨e, hem, hp⟩
      · simp at this
    have hlt : ∀ i ∈ T, i < n := fun i hi => by
      obtain ⟨o, ho, _⟩ := hops i hi
      rw [← hsz]
      exact (Array.getElem?_eq_some_iff.1 ho).1
    have hlis : ∀ d b, d < n → ((lsA n (ds ++ D0)).getD d b = true ↔ d ∈ ds ∨ d ∈ D0) := fun d b hl => by
      rw [lsA_get hl, decide_eq_true_eq, List.mem_append]
    obtain ⟨i0, hi0, hid0, hmin⟩ := least_not hex
    refine ⟨fun h0 => ?_, fun i hi => ?_⟩
    · have : i0 ∈ Region.ready md ops (lsA n (ds ++ D0)) := by
        obtain ⟨o, ho, he, _⟩ := hops i0 hi0
        refine mem_ready.2 ⟨?_, o, ho, fun e hem hb => ?_⟩
        · rw [lsA_get (hlt i0 hi0)]
          simp [hid0, hd i0 hi0]
        · obtain ⟨h4, h5⟩ := he e hem hb
          rw [hlis _ _ (Nat.lt_trans h4 (hlt i0 hi0))]
          rcases h5 with h5 | h5
          · exact .inl (hmin _ h5 h4)
          · exact .inr h5
      rw [h0] at this; simp at this
    · obtain ⟨hu, o, ho, he⟩ := mem_ready.1 hi
      have hjn : i < n := by rw [← hsz]; exact (Array.getElem?_eq_some_iff.1 ho).1
      rw [lsA_get hjn] at hu
      simp only [decide_eq_false_iff_not, List.mem_append, not_or] at hu
      have hiT : i ∈ T := by
        have := hc2 i (by rw [hsz]; exact hjn)
        simp only [Bool.or_eq_true, List.contains_iff_mem] at this
        rcases this with q | q
        · exact q
        · exact absurd q hu.2
      have hdp : ∀ d ∈ deps i, d ∈ ds ∨ d ∈ D0 := fun d hdd => by
        obtain ⟨o', ho', h4, h5⟩ := hops i hiT
        rw [ho] at ho'
        obtain rfl := Option.some.inj ho'
        obtain ⟨e, hem, hb, rfl⟩ := h5 d hdd
        have hl : e.on < n := Nat.lt_trans (h4 e hem hb).1 hjn
        exact (hlis _ _ hl).1 (he e hem hb)
      refine wpOp_mono (fun a' w' h => ⟨h.1, ?_⟩) (hstep ds a w h1 hR i hiT hu.1 hdp)
      rw [lsA_set]
      exact ih (i :: ds) a' w' (fun j hj => by rcases List.mem_cons.1 hj with rfl | hj; exact hiT; exact h1 j hj) (List.nodup_cons.2 ⟨hu.1, h2⟩) (by simp; omega) h.2

def updG (g : Nat → Nat) (i v : Nat) : Nat → Nat := fun j => if j = i then v else g j
end Go.Proofs.Ytehnbalbpfmijaa

namespace Go.Proofs.Ytehnbalbpfmijaa
open Go.RowKit
set_option linter.unusedVariables false

/-- The blocks that are there before the matrix is built. -/
structure A6 where
  pn : Nat
  b1 : Nat
  o0 : Nat
  m0 : Nat
  gc : Nat
  po : Nat
  pm : Nat
  pc : Nat
structure A6.Ok (q : A6) (s : Nat) : Prop where
  s : s ≤ q.b1
  n : q.pn < q.b1
  o0 : q.b1 ≤ q.o0 ∧ q.o0 < q.b1 + 6
  m0 : q.b1 ≤ q.m0 ∧ q.m0 < q.b1 + 6
  gc : q.b1 ≤ q.gc ∧ q.gc < q.b1 + 6
  po : q.b1 ≤ q.po ∧ q.po < q.b1 + 6
  pm : q.b1 ≤ q.pm ∧ q.pm < q.b1 + 6
  pc : q.b1 ≤ q.pc ∧ q.pc < q.b1 + 6
  ne : (q.o0 ≠ q.m0 ∧ q.o0 ≠ q.gc ∧ q.o0 ≠ q.po ∧ q.o0 ≠ q.pm ∧ q.o0 ≠ q.pc) ∧ (q.m0 ≠ q.gc ∧ q.m0 ≠ q.po ∧ q.m0 ≠ q.pm ∧ q.m0 ≠ q.pc) ∧ (q.gc ≠ q.po ∧ q.gc ≠ q.pm ∧ q.gc ≠ q.pc) ∧ (q.po ≠ q.pm ∧ q.po ≠ q.pc) ∧ q.pm ≠ q.pc
theorem A6.Ok.same {q : A6} {a b : Nat} (h : q.Ok a) (hab : b ≤ a) : q.Ok b := ⟨Nat.le_trans hab h.s, h.n, h.o0, h.m0, h.gc, h.po, h.pm, h.pc, h.ne⟩
structure ABld (w : World) (q : A6) (n : Nat) (wr : World) (v : Value) (hi : Nat) (xs : List (List Int)) : Prop where
  en : wr.heap[q.pn]? = some (.cells #[.int .i64 n] 3 (0, 0))
  ec : wr.heap[q.pc]? = some (.cells #[.slice (some ⟨q.gc, 0, none⟩) n n] 31 (0, 0))
  eg : wr.heap[q.gc]? = some (.cells (((List.replicate n (0 : Int)).map (Value.int .i64)).toArray) 3 (0, 0))
  eo : wr.heap[q.po]? = some (.cells #[.slice (some ⟨q.o0, 0, none⟩) 0 0] 73 (0, 0))
  em : wr.heap[q.pm]? = some (.cells #[v] 76 (0, 0))
  out : Acc eMA w q.b1 wr (.slice (some ⟨q.o0, 0, none⟩) 0 0) []
  mat : NRel (kdF elInt) (elSl 31 76) w q.b1 (q.b1 + 6) wr hi v xs
  at_ : ∀ g, v.ownBlock = some g → g = q.m0 ∨ (q.b1 + 6 ≤ g ∧ g < hi)
  ok : q.Ok w.heap.size
  hi_ : q.b1 + 6 ≤ hi
theorem ABld.step {w wr : World} {q : A6} {n : Nat} {v : Value} {hi : Nat} {xs : List (List Int)} (h : ABld w q n wr v hi xs) (hn4 : n ≤ 4) :
    ∃ ss A ca, v = .slice A xs.length ca ∧ ss.length = xs.length ∧ wr.cell? ⟨q.pm, 0, none⟩ = some v ∧ wr.cell? ⟨q.pn, 0, none⟩ = some (.int .i64 n) ∧
      q.pm < wr.heap.size ∧ Hid (Acc (elSl 31 76) w q.b1 (wr.drew.alloc (.cells (madeCells #[.int .i64 0] n) 3)) v ss) ∧
      Hid (∀ v' w2, Hid (Acc (elSl 31 76) w q.b1 w2 v' (ss ++ [(some ⟨wr.heap.size, 0, none⟩, n, n)])) → Hid (Grew (wr.drew.alloc (.cells (madeCells #[.int .i64 0] n) 3)) w2 v v') →
        (∃ u, w2.cell? ⟨q.pm, 0, none⟩ = some u) ∧ w2.frozen? ⟨q.pm, 0, none⟩ = false ∧ ABld w q n (w2.setCell ⟨q.pm, 0, none⟩ v') v' w2.heap.size (xs ++ [List.replicate n 0])) := by
  obtain ⟨A, ca, hv, _⟩ := h.mat.len okRowA
  obtain ⟨ss, hA, hE, hh⟩ := h.mat
  have hal := ((Below.refl wr.heap.size wr.drew).alloc (Nat.le_refl _) (.cells (madeCells #[.int .i64 0] n) 3))
  have hal' : Below wr.heap.size wr (wr.drew.alloc (.cells (madeCells #[.int .i64 0] n) 3)) := (Below.refl wr.heap.size wr).drew.trans hal
  refine ⟨ss, A, ca, hv, hE.1, cell_of_one h.em, cell_of_one h.en, lt_of_block h.em, hA.below hal', fun v' w2 HA HG => ?_⟩
  obtain ⟨g1, g, g2, g3, g4⟩ := HG.out
  have hsz : wr.heap.size + 1 ≤ w2.heap.size := by have := g1.size; simpa using this
  have hml := lt_of_block h.em
  have hkeep : ∀ k, k < wr.heap.size → (∀ g, v.ownBlock = some g → g ≠ k) → w2.heap[k]? = wr.heap[k]? := fun k hk hne =>
    (g1.block k (by simp; omega) (fun e => hne k e.symm rfl)).trans (hal'.block k hk)
  have o1 := h.ok.s; have o2 := h.ok.n; have o3 := h.ok.o0; have o4 := h.ok.m0; have o5 := h.ok.gc; have o6 := h.ok.po; have o7 := h.ok.pm; have o8 := h.ok.pc
  have hne : ∀ k, k < q.b1 + 6 → k ≠ q.m0 → ∀ g, v.ownBlock = some g → g ≠ k := fun k hk hk2 g hg => by
    rcases h.at_ g hg with e | e
    · rw [e]; exact fun e2 => hk2 e2.symm
    · omega
  have hi_ := h.hi_
  have hem2 : w2.heap[q.pm]? = some (.cells #[v] 76 (0, 0)) := (hkeep _ hml (hne _ o7.2 (Ne.symm h.ok.ne.2.1.2.2.1))).trans h.em
  have hold : ∀ k, k < q.b1 + 6 → k < wr.heap.size → k ≠ q.m0 → k ≠ q.pm → (w2.setCell ⟨q.pm, 0, none⟩ v').heap[k]? = wr.heap[k]? := fun k h1 h2 h3 h4 =>
    (Below.heap_setCell _ _ _ _ (by show k ≠ q.pm; exact h4)).trans (hkeep k h2 (hne k h1 h3))
  have hrow : (kdF elInt).P (wr.drew.alloc (.cells (madeCells #[.int .i64 0] n) 3)) wr.heap.size (wr.heap.size + 1) (slV (some ⟨wr.heap.size, 0, none⟩, n, n)) (List.replicate n 0) := by
    refine ⟨ownF_int.2 ?_, fun k hk => ?_⟩
    · have e : (List.replicate n (0 : Int)).length = n := by simp
      have := OwnI.of_row (w := wr.drew.alloc (.cells (madeCells #[.int .i64 0] n) 3)) (lo := wr.heap.size) (g := wr.heap.size) (zs := List.replicate n 0) (Nat.le_refl _) (by rw [e]; omega) (by rw [e]; exact (World.rowIs_made wr.drew _ _ _).congr fun i hi => by simp [hi])
      rwa [e] at this
    · simp only [Value.ownBlock, Option.some.injEq] at hk; omega
  have hN : NRel (kdF elInt) (elSl 31 76) w q.b1 (q.b1 + 6) w2 w2.heap.size v' (xs ++ [List.replicate n 0]) := by
    refine NRel.push (hE.kept (w' := wr.drew.alloc (.cells (madeCells #[.int .i64 0] n) 3)) (by simp) fun k _ hk _ => hal'.block k (by omega)) (by simp; omega) hrow (by omega) hh (by simp) (fun k hk => .inl ?_) HA HG
    exact (hA.lt k hk).2
  have hat : ∀ k, v'.ownBlock = some k → k = q.m0 ∨ (q.b1 + 6 ≤ k ∧ k < w2.heap.size) := fun k hk => by
    rw [g2] at hk
    obtain rfl := Option.some.inj hk
    rcases g3 with g3 | g3
    · rcases h.at_ g g3 with e | e
      · exact .inl e
      · exact .inr ⟨e.1, by omega⟩
    · simp at g3; exact .inr ⟨by omega, by omega⟩
  have hbig : Below w.heap.size w (w2.setCell ⟨q.pm, 0, none⟩ v') := HA.out.2.1.setCell (by show w.heap.size ≤ q.pm; omega) _
  have hl1 := lt_of_block h.en
  have hl2 := lt_of_block h.ec
  have hl3 := lt_of_block h.eo
  have hl4 := lt_of_block h.eg
  have hl5 : q.o0 < wr.heap.size := (h.out.lt q.o0 rfl).2
  refine ⟨⟨v, cell_of_one hem2⟩, free_of_one hem2, ?_, ?_, ?_, ?_, ?_, ?_, ?_, hat, h.ok, by omega⟩
  · exact (hold _ (by omega) hl1 (by omega) (by omega)).trans h.en
  · exact (hold _ o8.2 hl2 (Ne.symm h.ok.ne.2.1.2.2.2) (Ne.symm h.ok.ne.2.2.2.2)).trans h.ec
  · exact (hold _ o5.2 hl4 (Ne.symm h.ok.ne.2.1.1) h.ok.ne.2.2.1.2.1).trans h.eg
  · exact (hold _ o6.2 hl3 (Ne.symm h.ok.ne.2.1.2.1) h.ok.ne.2.2.2.1.1).trans h.eo
  · exact (blk_setCell hem2 _).trans (by simp)
  · refine ⟨h.out.1.same fun k hk => ?_, hbig, by omega, by simp; omega⟩
    simp only [Value.ownBlock, Option.some.injEq] at hk
    subst hk
    exact hold _ o3.2 hl5 h.ok.ne.1.1 h.ok.ne.1.2.2.2.1
  · refine hN.kept hbig (by simp) (fun k hk => Below.heap_setCell _ _ _ _ ?_) (fun k k1 _ => Below.heap_setCell _ _ _ _ ?_)
    · show k ≠ q.pm
      rcases hat k hk with e | e
      · rw [e]; exact h.ok.ne.2.1.2.2.1
      · omega
    · show k ≠ q.pm; omega
/-- Where all lies at the closure's first call. -/
def alay (q : A6) (g cap hi ps : Nat) : ALay := ⟨q.pn, q.b1, q.o0, q.m0, q.gc, q.po, q.pm, q.pc, q.b1 + 6, hi, ps, ps + 1, g, cap⟩
theorem rw_replA (n : Nat) (zs : List Int) (i : Nat) (h : i < n) : rw' (List.replicate n zs) i = zs := by simp [rw', h]
theorem ABld.full {w wr : World} {q : A6} {n : Nat} {v : Value} {hi : Nat} (h : ABld w q n wr v hi (List.replicate n (List.replicate n 0))) (hn0 : 0 < n) :
    ∃ g cap, Hid ((alay q g cap hi wr.heap.size).Ok w.heap.size) ∧ Hid (∀ W : World, Below wr.heap.size wr W → W.heap[wr.heap.size]? = some (.cells #[aclos (alay q g cap hi wr.heap.size)] 135 (0, 0)) → ASt w (alay q g cap hi wr.heap.size) n W (List.replicate n (List.replicate n 0)) (List.replicate n 0) []) := by
  obtain ⟨A, cap, hv, _⟩ := h.mat.len okRowA
  have hform : ∃ g, A = some ⟨g, 0, none⟩ := by
    obtain ⟨ss, hA, hE, _⟩ := h.mat
    obtain ⟨g, cap', e, _⟩ := World.ownsRow.form hA.1 (by rw [hE.1]; simpa using hn0)
    rw [hv] at e
    simp only [Value.slice.injEq] at e
    exact ⟨g, e.1⟩
  obtain ⟨g, rfl⟩ := hform
  have hl : (List.replicate n (List.replicate n (0 : Int))).length = n := by simp
  rw [hl] at hv
  subst hv
  have hg := h.at_ g rfl
  have hh : hi ≤ wr.heap.size := h.mat.choose_spec.2.2
  have hi_ := h.hi_
  have hml := lt_of_block h.em
  have k1 := lt_of_block h.en
  have k2 := lt_of_block h.ec
  have k3 := lt_of_block h.eg
  have k4 := lt_of_block h.eo
  refine ⟨g, cap, ⟨h.ok.s, h.ok.n, h.ok.o0, h.ok.m0, h.ok.gc, h.ok.po, h.ok.pm, h.ok.pc, h.ok.ne, hi_, hh, ?_, hg⟩, fun W hbl hps => ⟨⟨?_, ?_, ?_, ?_, hps⟩, h.mat.below hbl, ?_, .slice (some ⟨q.o0, 0, none⟩) 0 0, wr.heap.size + 1, ?_, ?_, ?_, ?_⟩⟩
  · show wr.heap.size < wr.heap.size + 1; omega
  · exact (hbl.block _ k1).trans h.en
  · exact (hbl.block _ k2).trans h.ec
  · exact (hbl.block _ k3).trans h.eg
  · exact (hbl.block _ hml).trans h.em
  · exact ⟨by simp, fun i hi => by rw [rw_replA _ _ _ hi]; simp⟩
  · exact (hbl.block _ k4).trans h.eo
  · exact ⟨[], h.out.below hbl, Els.nil _ _ _ _, lt_of_block hps⟩
  · exact Nat.le_refl _
  · intro k hk2
    simp only [Value.ownBlock, Option.some.injEq] at hk2
    exact .inl hk2.symm
end Go.Proofs.Ytehnbalbpfmijaa

namespace Go.Proofs.Ytehnbalbpfmijaa
open Go.RowKit
set_option linter.unusedVariables false

theorem Acc.lowA {α : Type} {E : El α} {w wr : World} {lo : Nat} {v : Value} {xs : List α} (h : Acc E w lo wr v xs) : Acc E w w.heap.size wr v xs :=
  ⟨h.1.mono h.2.2.1, h.2.1, Nat.le_refl _, h.2.1.size⟩
theorem NRel.lowA {α : Type} {K : Kd α} {E : El Sl} {w wr : World} {base lo hi : Nat} {v : Value} {xs : List α} (h : NRel K E w base lo wr hi v xs) (hl : w.heap.size ≤ lo) : NRel K E w w.heap.size w.heap.size wr hi v xs := by
  obtain ⟨ss, h1, h2, h3⟩ := h
  exact ⟨ss, h1.lowA, h2.more hl (Nat.le_refl _), h3⟩
/-- What ListAlternating lists. -/
def altN (n : Nat) : List (List (List Int)) := (altR n (n * n) 0 0 (List.replicate n (List.replicate n 0)) (List.replicate n 0)).2
def ctA (n : Nat) (ds : List Nat) (g : Nat → Nat) (i : Nat) : Obj :=
  if i = 0 then .cells #[] 76 else if i = 1 then .cells #[] 31 else if i = 3 then .cells (madeCells #[.int .i64 0] n) 3
  else if i = 4 then .cells #[if 7 ∈ ds then .slice (some ⟨g 0, 0, none⟩) 0 0 else .slice none 0 0] 73
  else if i = 5 then .cells #[if 8 ∈ ds then .slice (some ⟨g 1, 0, none⟩) 0 0 else .slice none 0 0] 76
  else if i = 6 then .cells #[if 9 ∈ ds then .slice (some ⟨g 3, 0, none⟩) n n else .slice none 0 0] 31
  else .cells #[] 31
/-- What has been made since V, and written. -/
structure MixA (V : World) (n : Nat) (ds : List Nat) (g : Nat → Nat) (w : World) : Prop where
  b : Below V.heap.size V w
  sz : w.heap.size = V.heap.size + (ds.filter fun i => decide (i < 7)).length
  k : ∀ i ∈ ds, i < 7 → (V.heap.size ≤ g i ∧ g i < w.heap.size) ∧ w.heap[g i]? = some (ctA n ds g i)
  ne : ∀ i ∈ ds, ∀ j ∈ ds, i < 7 → j < 7 → i ≠ j → g i ≠ g j
  d7 : 7 ∈ ds → 0 ∈ ds ∧ 4 ∈ ds
  d8 : 8 ∈ ds → 1 ∈ ds ∧ 5 ∈ ds
  d9 : 9 ∈ ds → 3 ∈ ds ∧ 6 ∈ ds
theorem MixA.start (V : World) (n : Nat) : MixA V n [] (fun _ => 0) V := ⟨Below.refl _ _, by simp, fun i h => by simp at h, fun i h => by simp at h, fun h => by simp at h, fun h => by simp at h, fun h => by simp at h⟩
theorem MixA.alloc {V w : World} {n : Nat} {ds : List Nat} {g : Nat → Nat} (h : MixA V n ds g w) {i : Nat} (h6 : i < 7) (hi : i ∉ ds) : MixA V n (i :: ds) (updG g i w.heap.size) (w.alloc (ctA n [] g i)) := by
  have hb : Below w.heap.size w (w.alloc (ctA n [] g i)) := (Below.refl _ _).alloc (Nat.le_refl _) _
  have hs : (w.alloc (ctA n [] g i)).heap.size = w.heap.size + 1 := by simp
  have hup : ∀ j, j ∈ ds → updG g i w.heap.size j = g j := fun j hj => if_neg (fun e => hi (by rw [← e]; exact hj))
  have hmem : ∀ t, 7 ≤ t → (t ∈ i :: ds ↔ t ∈ ds) := fun t ht => by rw [List.mem_cons]; exact ⟨fun q => q.resolve_left (by omega), .inr⟩
  have hold : ∀ j, j ≠ i → ctA n (i :: ds) (updG g i w.heap.size) j = ctA n ds g j := fun j hj => by
    unfold ctA
    have e7 : (if 7 ∈ i :: ds then Value.slice (some ⟨updG g i w.heap.size 0, 0, none⟩) 0 0 else .slice none 0 0) = if 7 ∈ ds then Value.slice (some ⟨g 0, 0, none⟩) 0 0 else .slice none 0 0 := by
      by_cases q : 7 ∈ ds
      · rw [if_pos ((hmem 7 (by omega)).2 q), if_pos q, hup 0 (h.d7 q).1]
      · rw [if_neg (fun z => q ((hmem 7 (by omega)).1 z)), if_neg q]
    have e8 : (if 8 ∈ i :: ds then Value.slice (some ⟨updG g i w.heap.size 1, 0, none⟩) 0 0 else .slice none 0 0) = if 8 ∈ ds then Value.slice (some ⟨g 1, 0, none⟩) 0 0 else .slice none 0 0 := by
      by_cases q : 8 ∈ ds
      · rw [if_pos ((hmem 8 (by omega)).2 q), if_pos q, hup 1 (h.d8 q).1]
      · rw [if_neg (fun z => q ((hmem 8 (by omega)).1 z)), if_neg q]
    have e9 : (if 9 ∈ i :: ds then Value.slice (some ⟨updG g i w.heap.size 3, 0, none⟩) n n else .slice none 0 0) = if 9 ∈ ds then Value.slice (some ⟨g 3, 0, none⟩) n n else .slice none 0 0 := by
      by_cases q : 9 ∈ ds
      · rw [if_pos ((hmem 9 (by omega)).2 q), if_pos q, hup 3 (h.d9 q).1]
      · rw [if_neg (fun z => q ((hmem 9 (by omega)).1 z)), if_neg q]
    rw [e7, e8, e9]
  have hnew : ctA n (i :: ds) (updG g i w.heap.size) i = ctA n [] g i := by
    unfold ctA
    by_cases a0 : i = 0
    · rw [if_pos a0, if_pos a0]
    · rw [if_neg a0, if_neg a0]
      by_cases a1 : i = 1
      · rw [if_pos a1, if_pos a1]
      · rw [if_neg a1, if_neg a1]
        by_cases a3 : i = 3
        · rw [if_pos a3, if_pos a3]
        · rw [if_neg a3, if_neg a3]
          by_cases a4 : i = 4
          · rw [if_pos a4, if_pos a4, if_neg (fun z => hi (by rw [a4]; exact (h.d7 ((hmem 7 (by omega)).1 z)).2)), if_neg (by simp)]
          · rw [if_neg a4, if_neg a4]
            by_cases a5 : i = 5
            · rw [if_pos a5, if_pos a5, if_neg (fun z => hi (by rw [a5]; exact (h.d8 ((hmem 8 (by omega)).1 z)).2)), if_neg (by simp)]
            · rw [if_neg a5, if_neg a5]
              by_cases a6 : i = 6
              · rw [if_pos a6, if_pos a6, if_neg (fun z => hi (by rw [a6]; exact (h.d9 ((hmem 9 (by omega)).1 z)).2)), if_neg (by simp)]
              · rw [if_neg a6, if_neg a6]
  refine ⟨h.b.trans (hb.mono h.b.size), ?_, fun j hj hj7 => ?_, fun j hj l hl hj7 hl7 hne => ?_, fun q => ?_, fun q => ?_, fun q => ?_⟩
  · rw [hs, h.sz, List.filter_cons_of_pos (by simpa using h6)]; simp; omega
  · by_cases e : j = i
    · subst e
      rw [hnew, hs]
      have e2 : updG g j w.heap.size j = w.heap.size := if_pos rfl
      rw [e2]
      exact ⟨⟨h.b.size, by omega⟩, heap_alloc_new w _⟩
    · have hj' : j ∈ ds := by rcases List.mem_cons.1 hj with q | q; exact absurd q e; exact q
      obtain ⟨⟨h1, h2⟩, h3⟩ := h.k j hj' hj7
      rw [hold j e, hup j hj', hs]
      exact ⟨⟨h1, by omega⟩, (hb.block _ h2).trans h3⟩
  · have hlt : ∀ q ∈ ds, q < 7 → g q < w.heap.size := fun q hq hq7 => (h.k q hq hq7).1.2
    unfold updG
    by_cases e1 : j = i <;> by_cases e2 : l = i
    · exact absurd (e1.trans e2.symm) hne
    · rw [if_pos e1, if_neg e2]
      have hl' : l ∈ ds := by rcases List.mem_cons.1 hl with q | q; exact absurd q e2; exact q
      have := hlt l hl' hl7; omega
    · rw [if_neg e1, if_pos e2]
      have hj' : j ∈ ds := by rcases List.mem_cons.1 hj with q | q; exact absurd q e1; exact q
      have := hlt j hj' hj7; omega
    · rw [if_neg e1, if_neg e2]
      have hj' : j ∈ ds := by rcases List.mem_cons.1 hj with q | q; exact absurd q e1; exact q
      have hl' : l ∈ ds := by rcases List.mem_cons.1 hl with q | q; exact absurd q e2; exact q
      exact h.ne j hj' l hl' hj7 hl7 hne
  · exact (h.d7 ((hmem 7 (by omega)).1 q)).imp .inr .inr |> fun z => ⟨List.mem_cons.2 z.1, List.mem_cons.2 z.2⟩
  · exact (h.d8 ((hmem 8 (by omega)).1 q)).imp .inr .inr |> fun z => ⟨List.mem_cons.2 z.1, List.mem_cons.2 z.2⟩
  · exact (h.d9 ((hmem 9 (by omega)).1 q)).imp .inr .inr |> fun z => ⟨List.mem_cons.2 z.1, List.mem_cons.2 z.2⟩
theorem MixA.store {V w : World} {n : Nat} {ds : List Nat} {g : Nat → Nat} (h : MixA V n ds g w) {t c : Nat} {u x : Value} {ty : TypeId} (ht : 7 ≤ t) (hc7 : c < 7) (hc : c ∈ ds) (h1 : ctA n ds g c = .cells #[x] ty) (h2 : ctA n (t :: ds) g c = .cells #[u] ty)
    (hold : ∀ j, j < 7 → j ≠ c → ctA n (t :: ds) g j = ctA n ds g j) (d7 : 7 ∈ t :: ds → 0 ∈ ds ∧ 4 ∈ ds) (d8 : 8 ∈ t :: ds → 1 ∈ ds ∧ 5 ∈ ds) (d9 : 9 ∈ t :: ds → 3 ∈ ds ∧ 6 ∈ ds) : MixA V n (t :: ds) g (w.setCell ⟨g c, 0, none⟩ u) := by
  obtain ⟨⟨c1, c2⟩, c3⟩ := h.k c hc hc7
  have hin : ∀ j, j ∈ t :: ds → j < 7 → j ∈ ds := fun j hj h7 => by rcases List.mem_cons.1 hj with q | q; omega; exact q
  refine ⟨h.b.setCell c1 _, ?_, fun j hj hj7 => ?_, fun j hj l hl hj7 hl7 hne => h.ne j (hin j hj hj7) l (hin l hl hl7) hj7 hl7 hne, fun q => ?_, fun q => ?_, fun q => ?_⟩
  · rw [List.filter_cons_of_neg (by simp; omega)]; simpa using h.sz
  · obtain ⟨k1, k2⟩ := h.k j (hin j hj hj7) hj7
    refine ⟨by simpa using k1, ?_⟩
    by_cases e : j = c
    · subst e
      rw [h1] at c3
      rw [h2]
      exact (blk_setCell c3 _).trans rfl
    · rw [hold j hj7 e]
      exact (Below.heap_setCell _ _ _ _ (h.ne j (hin j hj hj7) c hc hj7 hc7 e)).trans k2
  · obtain ⟨a, b⟩ := d7 q; exact ⟨List.mem_cons.2 (.inr a), List.mem_cons.2 (.inr b)⟩
  · obtain ⟨a, b⟩ := d8 q; exact ⟨List.mem_cons.2 (.inr a), List.mem_cons.2 (.inr b)⟩
  · obtain ⟨a, b⟩ := d9 q; exact ⟨List.mem_cons.2 (.inr a), List.mem_cons.2 (.inr b)⟩
theorem MixA.s7 {V w : World} {n : Nat} {ds : List Nat} {g : Nat → Nat} (h : MixA V n ds g w) (h7 : 7 ∉ ds) (h0 : 0 ∈ ds) (h4 : 4 ∈ ds) : w.heap[g 4]? = some (.cells #[.slice none 0 0] 73 (0, 0)) ∧ MixA V n (7 :: ds) g (w.setCell ⟨g 4, 0, none⟩ (.slice (some ⟨g 0, 0, none⟩) 0 0)) := by
  have h1 : ctA n ds g 4 = .cells #[.slice none 0 0] 73 := by simp [ctA, h7]
  exact ⟨by have := (h.k 4 h4 (by omega)).2; rw [h1] at this; exact this, h.store (by omega) (by omega) h4 h1 (by simp [ctA]) (fun j _ hj => by simp [ctA, hj]) (fun _ => ⟨h0, h4⟩) (fun q => h.d8 (by simpa using q)) (fun q => h.d9 (by simpa using q))⟩
theorem MixA.s8 {V w : World} {n : Nat} {ds : List Nat} {g : Nat → Nat} (h : MixA V n ds g w) (h7 : 8 ∉ ds) (h0 : 1 ∈ ds) (h4 : 5 ∈ ds) : w.heap[g 5]? = some (.cells #[.slice none 0 0] 76 (0, 0)) ∧ MixA V n (8 :: ds) g (w.setCell ⟨g 5, 0, none⟩ (.slice (some ⟨g 1, 0, none⟩) 0 0)) := by
  have h1 : ctA n ds g 5 = .cells #[.slice none 0 0] 76 := by simp [ctA, h7]
  exact ⟨by have := (h.k 5 h4 (by omega)).2; rw [h1] at this; exact this, h.store (by omega) (by omega) h4 h1 (by simp [ctA]) (fun j _ hj => by simp [ctA, hj]) (fun q => h.d7 (by simpa using q)) (fun _ => ⟨h0, h4⟩) (fun q => h.d9 (by simpa using q))⟩
theorem MixA.s9 {V w : World} {n : Nat} {ds : List Nat} {g : Nat → Nat} (h : MixA V n ds g w) (h7 : 9 ∉ ds) (h0 : 3 ∈ ds) (h4 : 6 ∈ ds) : w.heap[g 6]? = some (.cells #[.slice none 0 0] 31 (0, 0)) ∧ MixA V n (9 :: ds) g (w.setCell ⟨g 6, 0, none⟩ (.slice (some ⟨g 3, 0, none⟩) n n)) := by
  have h1 : ctA n ds g 6 = .cells #[.slice none 0 0] 31 := by simp [ctA, h7]
  exact ⟨by have := (h.k 6 h4 (by omega)).2; rw [h1] at this; exact this, h.store (by omega) (by omega) h4 h1 (by simp [ctA]) (fun j _ hj => by simp [ctA, hj]) (fun q => h.d7 (by simpa using q)) (fun q => h.d8 (by simpa using q)) (fun _ => ⟨h0, h4⟩)⟩
theorem madeInt (n : Nat) : Obj.cells (madeCells #[.int .i64 0] n) 3 = Obj.cells (((List.replicate n (0 : Int)).map (Value.int .i64)).toArray) 3 := by
  congr 1
  apply Array.ext
  · simp [madeCells]
  · intro i h1 h2
    simp [madeCells, Nat.mod_one]
theorem six_of {w0 : World} {V w : World} {n : Nat} {ds : List Nat} {g : Nat → Nat} {pn : Nat} (hM : MixA V n ds g w) (hall : ∀ i ∈ [0, 1, 3, 4, 5, 6, 7, 8, 9], i ∈ ds) (hlen : (ds.filter fun i => decide (i < 7)).length = 6) (hb0 : Below w0.heap.size w0 V) (hpn : V.heap[pn]? = some (.cells #[.int .i64 n] 3 (0, 0))) :
    ABld w0 ⟨pn, V.heap.size, g 0, g 1, g 3, g 4, g 5, g 6⟩ n w (.slice (some ⟨g 1, 0, none⟩) 0 0) (V.heap.size + 6) [] := by
  have hpl := lt_of_block hpn
  have hpw : w.heap[pn]? = some (.cells #[.int .i64 n] 3 (0, 0)) := (hM.b.block pn hpl).trans hpn
  have hsz := hM.sz
  rw [hlen] at hsz
  obtain ⟨a0, b0⟩ := hM.k 0 (hall 0 (by simp)) (by omega)
  obtain ⟨a1, b1⟩ := hM.k 1 (hall 1 (by simp)) (by omega)
  obtain ⟨a3, b3⟩ := hM.k 3 (hall 3 (by simp)) (by omega)
  obtain ⟨a4, b4⟩ := hM.k 4 (hall 4 (by simp)) (by omega)
  obtain ⟨a5, b5⟩ := hM.k 5 (hall 5 (by simp)) (by omega)
  obtain ⟨a6, b6⟩ := hM.k 6 (hall 6 (by simp)) (by omega)
  have ne : ∀ i j, i ∈ [0, 1, 3, 4, 5, 6, 7, 8, 9] → j ∈ [0, 1, 3, 4, 5, 6, 7, 8, 9] → i < 7 → j < 7 → i ≠ j → g i ≠ g j := fun i j hi hj h7 h8 h => hM.ne i (hall i hi) j (hall j hj) h7 h8 h
  have n01 := ne 0 1 (by simp) (by simp) (by decide) (by decide) (by decide); have n03 := ne 0 3 (by simp) (by simp) (by decide) (by decide) (by decide); have n04 := ne 0 4 (by simp) (by simp) (by decide) (by decide) (by decide); have n05 := ne 0 5 (by simp) (by simp) (by decide) (by decide) (by decide); have n06 := ne 0 6 (by simp) (by simp) (by decide) (by decide) (by decide)
  have n13 := ne 1 3 (by simp) (by simp) (by decide) (by decide) (by decide); have n14 := ne 1 4 (by simp) (by simp) (by decide) (by decide) (by decide); have n15 := ne 1 5 (by simp) (by simp) (by decide) (by decide) (by decide); have n16 := ne 1 6 (by simp) (by simp) (by decide) (by decide) (by decide)
  have n34 := ne 3 4 (by simp) (by simp) (by decide) (by decide) (by decide); have n35 := ne 3 5 (by simp) (by simp) (by decide) (by decide) (by decide); have n36 := ne 3 6 (by simp) (by simp) (by decide) (by decide) (by decide)
  have n45 := ne 4 5 (by simp) (by simp) (by decide) (by decide) (by decide); have n46 := ne 4 6 (by simp) (by simp) (by decide) (by decide) (by decide); have n56 := ne 5 6 (by simp) (by simp) (by decide) (by decide) (by decide)
  have hbw : Below w0.heap.size w0 w := hb0.trans (hM.b.mono hb0.size)
  simp [ctA, hall 7 (by simp), hall 8 (by simp), hall 9 (by simp)] at b0 b1 b3 b4 b5 b6
  clear ne hM hall
  have hok : (⟨pn, V.heap.size, g 0, g 1, g 3, g 4, g 5, g 6⟩ : A6).Ok w0.heap.size := ⟨hb0.size, hpl, ⟨a0.1, Nat.lt_of_lt_of_eq a0.2 hsz⟩, ⟨a1.1, Nat.lt_of_lt_of_eq a1.2 hsz⟩, ⟨a3.1, Nat.lt_of_lt_of_eq a3.2 hsz⟩, ⟨a4.1, Nat.lt_of_lt_of_eq a4.2 hsz⟩, ⟨a5.1, Nat.lt_of_lt_of_eq a5.2 hsz⟩, ⟨a6.1, Nat.lt_of_lt_of_eq a6.2 hsz⟩, ⟨n01, n03, n04, n05, n06⟩, ⟨n13, n14, n15, n16⟩, ⟨n34, n35, n36⟩, ⟨n45, n46⟩, n56⟩
  have q0 := hb0.size
  refine ⟨hpw, b6, b3.trans (by rw [madeInt]), b4, b5, ⟨?_, hbw, q0, by rw [hsz]; exact Nat.le_add_right _ _⟩, ⟨[], ⟨?_, hbw, q0, by rw [hsz]; exact Nat.le_add_right _ _⟩, Els.nil _ _ _ _, Nat.le_of_eq hsz.symm⟩, ?_, hok, Nat.le_refl _⟩
  · exact ⟨by simp, .inr ⟨_, 0, #[], rfl, a0.1, b0, Nat.le_refl _, by simp [maxLen], by simp, by simp⟩⟩
  · exact ⟨by simp, .inr ⟨_, 0, #[], rfl, a1.1, b1, Nat.le_refl _, by simp [maxLen], by simp, by simp⟩⟩
  · intro k hk
    simp only [Value.ownBlock, Option.some.injEq] at hk
    exact .inl hk.symm
end Go.Proofs.Ytehnbalbpfmijaa
