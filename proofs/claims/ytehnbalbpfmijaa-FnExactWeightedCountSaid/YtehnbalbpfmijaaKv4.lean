/- What the claim's walk rests on: parts LAltT, LAlt2. -/
import Derived.Test.YtehnbalbpfmijaaKv3
import Derived.Test.YtehnbalbpfmijaaKv2
import Derived.StillTailTactics
import Derived.Deep.RegionHeld3
import Derived.Deep.RegionLaw
import Derived.Deep.DeepCutAuto
import Derived.Deep.Cut
import Derived.Deep.QuietTactic
import Derived.BigQuiet
import Derived.StillTactics
namespace Go.Proofs.Ytehnbalbpfmijaa
open Go.RowKit
set_option linter.unusedVariables false

theorem rdI_F {w : World} {B : Nat} {v : Value} {zs : List Int} (h : RdI w B v zs) : RdF elInt w B v zs := by
  obtain ⟨A, c, e, h1, h2, h3⟩ := h
  refine ⟨A, c, e, h1, h2, fun j x hx => ?_⟩
  have hj := (List.getElem?_eq_some_iff.1 hx).1
  obtain ⟨ad, e1, e2, e3⟩ := h3.int hj
  refine ⟨ad, e1, e2, fun i u hu => ?_⟩
  have hi0 : i = 0 := by have := (List.getElem?_eq_some_iff.1 hu).1; simp [elInt] at this; exact this
  subst hi0
  have hu' : u = .int .i64 x := by simp [elInt] at hu; exact hu.symm
  subst hu'
  have hxx : zs[j] = x := (List.getElem?_eq_some_iff.1 hx).2
  rw [hxx] at e3
  simpa [elInt] using e3
theorem acc_blk {V W : World} {q : Nat} (h : W.heap[q]? = some (.cells #[] 3 (0, 0))) (hq : V.heap.size ≤ q) (hb : Below V.heap.size V W) : Acc elInt V V.heap.size W (.slice (some ⟨q, 0, none⟩) 0 0) [] :=
  ⟨⟨by simp, .inr ⟨_, 0, #[], rfl, hq, h, Nat.le_refl _, by simp [maxLen], by simp, by simp⟩⟩, hb, Nat.le_refl _, hb.size⟩
theorem keepS {V w' : World} {p : Addr} {u : Value} (hp : p.block < V.heap.size) (hc : V.cell? p = some u) (h : Below V.heap.size V w') : Below V.heap.size V w' ∧ w'.cell? p = some u := ⟨h, (h.cell hp).trans hc⟩
theorem acc_same {α : Type} {E : El α} {V W X : World} {lo : Nat} {v : Value} {xs : List α} (h : Acc E V lo W v xs) (hb : Below V.heap.size V X) (hs : W.heap.size ≤ X.heap.size) (hk : ∀ k, v.ownBlock = some k → X.heap[k]? = W.heap[k]?) : Acc E V lo X v xs :=
  ⟨h.1.same hk, hb, h.2.2.1, Nat.le_trans h.2.2.2 hs⟩
theorem last_of {w wr : World} {lo : Nat} {x : Value} {zs zs0 : List Int} {j : Nat} {z : Int} (h : Acc elInt w lo wr x zs) (hl : zs.length = j + 1) (he : zs = zs0 ++ [z]) (h0 : zs0.length = j) : ∃ ad c, x = .slice (some ad) (j + 1) c ∧ j + 1 ≤ c ∧ c ≤ 9223372036854775807 ∧ wr.cell? (ad.add j) = some (.int .i64 z) := by
  obtain ⟨A, c, e, r1, r2, r3⟩ := (ownF_int.1 h.1).rd
  rw [hl] at e r1
  obtain ⟨ad, rfl, _, hc⟩ := Rd.int r3 (k := j) (by omega)
  have hz : zs[j]'(by omega) = z := by subst he; simp [← h0]
  rw [hz] at hc
  exact ⟨ad, c, e, r1, by unfold maxLen at r2; omega, hc⟩
/-- What is known of the rows. -/
structure RowsOk (n : Nat) (rows : List (List Int)) : Prop where
  len : ∀ i, i < rows.length → (rw' rows i).length = n
  cnt : rows.length ≤ 81
  bd : ∀ i j, i < rows.length → j < n → -1 ≤ el (rw' rows i) j ∧ el (rw' rows i) j ≤ 1

set_option maxRecDepth 100000 in
set_option maxHeartbeats 8000000 in
theorem salt_step (n : Nat) (hn : 1 ≤ n ∧ n ≤ 4) (rows : List (List Int)) (HRW : RowsOk n rows) (d : Nat) (IH : SAlt n rows d) : SAlt n rows (d + 1) := by
  intro w B v1 v2 v3 hd cs h1 h2 h3 hB hl hrl hcl hc01
  obtain ⟨A1, c1, rfl, f1, f2, HAT1⟩ := h1.open_
  obtain ⟨A2, c2, rfl, g1, g2, _⟩ := h2.open_
  obtain ⟨A3, c3, rfl, g3, g4, G3⟩ := id h3
  unfold maxLen at f2 g2 g4
  have HRD1 := Lib.hid h1
  have HRD2 := Lib.hid h2
  have HRD3 := Lib.hid h3
  have HAT1 := Lib.hid HAT1
  have HC3 := Lib.hid G3
  have HHD := Lib.hid hrl
  have HRLN := Lib.hid HRW.len
  have HRBD := Lib.hid HRW.bd
  have HC01 := Lib.hid hc01
  have hR81 := HRW.cnt
  rw [hcl] at g3
  rw [hcl]
  have HCL := Lib.hid hcl
  obtain ⟨m, hm⟩ : ∃ m, hd.length = m := ⟨_, rfl⟩
  rw [hm] at g1 hl ⊢
  have HM := Lib.hid hm
  obtain ⟨hn1, hn4⟩ := hn
  have hmn : m < n := by omega
  have hd3 : d ≤ 3 := by omega
  have hneq : ((m : Int) == (n : Int)) = false := by rw [beq_eq_false_iff_ne]; omega
  have hpw : 81 * 81 ^ d ≤ 100000000 := by
    have := Nat.pow_le_pow_right (show 0 < 81 by omega) hd3
    have h2 : 81 * 81 ^ d ≤ 81 * 81 ^ 3 := Nat.mul_le_mul_left _ this
    exact Nat.le_trans h2 (by decide)
  have HLM : Hid (hd.length + 1 + d = n) := by unfold Hid; omega
  have HAL : Hid (altS n rows (d + 1) hd cs = sTo n rows (fun h c => altS n rows d h c) hd cs rows.length) := rfl
  obtain ⟨rec, HREC⟩ : ∃ f : List (List Int) → List Int → List (List (List Int)), Hid ((fun h c => altS n rows d h c) = f) := ⟨fun h c => altS n rows d h c, rfl⟩
  rw [HREC.out] at HAL
  have HRCL : Hid (∀ x y, (rec x y).length ≤ 81 ^ d) := fun x y => by rw [← HREC.out]; exact altS_len n rows 81 hR81 d x y
  have HI : Hid (∀ (w : World) (B : Nat) (v1 v2 v3 : Value) (hd : List (List Int)) (cs : List Int), RdII w B v1 rows → RdII w B v2 hd → RdI w B v3 cs → B ≤ w.heap.size → hd.length + d = n → (∀ i, i < hd.length → (rw' hd i).length = n) → cs.length = n → InB01 cs n →
      Calls Try.prog 122 #[.int .i64 n, v1, v2, v3] w (RetN kdM eMA w (rec hd cs))) := by rw [← HREC.out]; exact IH
  have HSS : Hid (∀ i, sTo n rows rec hd cs (i + 1) = if okTo cs (rw' rows i) n then sTo n rows rec hd cs i ++ rec (hd ++ [rw' rows i]) (addR cs (rw' rows i) n) else sTo n rows rec hd cs i) := fun i => rfl
  have HSL : Hid (∀ i, (sTo n rows rec hd cs i).length ≤ i * 81 ^ d) := fun i => sTo_len n rows rec hd cs _ HRCL.out i
  have HS0 : Hid (sTo n rows rec hd cs 0 = []) := rfl
  obtain ⟨st, HST⟩ : ∃ f : Nat → List (List (List Int)), Hid (sTo n rows rec hd cs = f) := ⟨sTo n rows rec hd cs, rfl⟩
  rw [HST.out] at HSS HSL HS0 HAL
  rw [HAL.out]
  have HPW := Lib.hid hpw
  obtain ⟨R, hRR⟩ : ∃ R, rows.length = R := ⟨_, rfl⟩
  rw [hRR] at HRLN HRBD hR81 f1 HRD1 ⊢
  have HRL := Lib.hid hRR
  clear HAL HST HREC IH h1 h2 h3 G3 hrl HRW hc01 hcl hm hpw hl hRR
  have HN0 : Hid (NRel kdM eMA w w.heap.size w.heap.size (w.alloc (.cells #[] 76)) (w.heap.size + 1) (.slice (some ⟨w.heap.size, 0, none⟩) 0 0) []) := ⟨[], Acc.start w, Els.nil _ _ _ _, by simp⟩
  go_enter Try.func122, Try.ntmps122
  go_wp2_with fail
  go_loopw [9, 13] (fun o i wr => ∃ (k : Nat) (v : Value) (hi : Nat), k ≤ R ∧ v = o ∧ i = .int .i64 (k : Int) ∧ Hid (NRel kdM eMA w w.heap.size w.heap.size wr hi v (st k))) (fun _ i _ => R - (intOf i).toNat)
  case atStart => exact ⟨0, _, _, Nat.zero_le _, rfl, rfl, by rw [HS0.out]; exact HN0⟩
  case round =>
    obtain ⟨k, v, hi, hk, rfl, rfl, HN⟩ := hrel
    obtain ⟨wo, rfl⟩ : ∃ wo, wr = wo := ⟨_, rfl⟩
    by_cases hlt : k < R
    · have ht : decide ((k : Int) < (R : Int)) = true := by simp only [decide_eq_true_eq]; omega
      have HBW : Hid (Below w.heap.size w wr) := HN.out.choose_spec.1.2.1
      obtain ⟨ad1, x1, rfl, hbl1, hr1, hrr⟩ := HAT1.out k (by rw [HRL.out]; exact hlt)
      have HRR := Lib.hid hrr
      obtain ⟨A5, c5, rfl, q1, q2, q3⟩ := hrr
      have HSK := Lib.hid (HSS.out k)
      have hrn := HRLN.out k hlt
      have HBD : Hid (∀ j, j < n → -1 ≤ el (rw' rows k) j ∧ el (rw' rows k) j ≤ 1) := fun j hj => HRBD.out k j hlt hj
      rw [hrn] at q1 hr1
      have HRN := Lib.hid hrn
      have HQ3 := Lib.hid q3
      clear hrn q3
      rw [HRN.out] at HRR
      generalize rw' rows k = row at *
      have HADE : Hid (∀ j, j < n → el (addR cs row n) j = el cs j + el row j) := fun j hj => addR_el cs row n j hj
      have HADS : Hid (∀ j, addR cs row (j + 1) = addR cs row j ++ [el cs j + el row j]) := fun j => rfl
      have HADL : Hid (∀ j, (addR cs row j).length = j) := addR_len cs row
      have HOKS : Hid (∀ j, okTo cs row (j + 1) = (okTo cs row j && inB (el cs j + el row j) 0 1)) := fun j => rfl
      have HOKI : Hid (okTo cs row n = true → ∀ j, j < n → 0 ≤ el cs j + el row j ∧ el cs j + el row j ≤ 1) := okTo_iff cs row n
      have HAD0 : Hid (addR cs row 0 = []) := rfl
      have HOK0 : Hid (okTo cs row 0 = true) := rfl
      obtain ⟨ad, HAD⟩ : ∃ f : Nat → List Int, Hid (addR cs row = f) := ⟨addR cs row, rfl⟩
      obtain ⟨ok, HOK⟩ : ∃ f : Nat → Bool, Hid (okTo cs row = f) := ⟨okTo cs row, rfl⟩
      rw [HAD.out] at HADE HADS HADL HAD0 HSK
      rw [HOK.out] at HOKS HOKI HOK0 HSK
      clear HAD HOK
      have HACC : Hid (Acc elInt wr wr.heap.size (wr.alloc (.cells #[] 3)) (.slice (some ⟨wr.heap.size, 0, none⟩) 0 0) []) := Acc.start wr
      obtain ⟨wo, rfl⟩ : ∃ wo, wo = wr := ⟨_, rfl⟩
      go_wp2_with fail
      go_loopw [14, 15, 16] (fun u b i wr2 => ∃ (j : Nat) (x : Value), j ≤ n ∧ x = u ∧ b = .bool (ok j) ∧ i = .int .i64 (j : Int) ∧ Hid (Acc elInt wo wo.heap.size wr2 x (ad j))) (fun _ _ i _ => n - (intOf i).toNat)
      case atStart => exact ⟨0, _, Nat.zero_le _, rfl, by rw [HOK0.out], rfl, by rw [HAD0.out]; exact HACC⟩
      case round =>
        obtain ⟨j, x, hj, rfl, rfl, rfl, HA⟩ := hrel
        have HBW2 : Hid (Below w.heap.size w wr) := HBW.out.trans (HA.out.2.1.mono HBW.out.size)
        have hr2 := (HBW2.out.cell (p := ad1.add k) (by rw [addBlock]; omega)).trans hr1
        by_cases hlj : j < n
        · have htj : decide ((j : Int) < (n : Int)) = true := by simp only [decide_eq_true_eq]; omega
          obtain ⟨ad3, rfl, hbl3, hc3⟩ := Rd.int HC3.out (k := j) (by rw [HCL.out]; exact hlj)
          rw [← el_get _ _ (by rw [HCL.out]; exact hlj)] at hc3
          obtain ⟨ad5, rfl, hbl5, hc5⟩ := Rd.int HQ3.out (k := j) (by rw [HRN.out]; exact hlj)
          rw [← el_get _ _ (by rw [HRN.out]; exact hlj)] at hc5
          have hc3' := (HBW2.out.cell (p := ad3.add j) (by rw [addBlock]; omega)).trans hc3
          have hc5' := (HBW2.out.cell (p := ad5.add j) (by rw [addBlock]; omega)).trans hc5
          have hb1 := HC01.out j hlj
          have hb2 := HBD.out j hlj
          have HAJ := Lib.hid (HADS.out j)
          have HOJ := Lib.hid (HOKS.out j)
          have hk0 : (0 : Int) ≤ (k : Int) := by omega
          have hk1 : (k : Int) < (R : Int) := by omega
          have hj0 : (0 : Int) ≤ (j : Int) := by omega
          have hj1 : (j : Int) < (n : Int) := by omega
          clear hc3 hc5
          generalize el cs j = cj at *
          generalize el row j = rj at *
          have wcr : IntKind.i64.wrap (cj + rj) = cj + rj := IntWalk.i64_in _ (by omega)
          have HLJ := Lib.hid (HADL.out j)
          obtain ⟨sz, hsz⟩ : ∃ sz, cj + rj = sz := ⟨_, rfl⟩
          rw [hsz] at wcr HAJ HOJ
          have hszb : -1 ≤ sz ∧ sz ≤ 2 := by omega
          have hp1 : (ad1.add k).block < wo.heap.size := by rw [addBlock]; have := HBW.out.size; omega
          have hp3 : (ad3.add j).block < wo.heap.size := by rw [addBlock]; have := HBW.out.size; omega
          have hp5 : (ad5.add j).block < wo.heap.size := by rw [addBlock]; have := HBW.out.size; omega
          have HK3 : Hid (∀ w', Below wo.heap.size wo w' → Below wo.heap.size wo w' ∧ w'.cell? (ad1.add k) = some (.slice (some ad5) n c5) ∧ w'.cell? (ad3.add j) = some (.int .i64 cj) ∧ w'.cell? (ad5.add j) = some (.int .i64 rj)) := fun w' hb =>
            ⟨hb, (hb.cell hp1).trans ((HA.out.2.1.cell hp1).symm.trans hr2), (hb.cell hp3).trans ((HA.out.2.1.cell hp3).symm.trans hc3'), (hb.cell hp5).trans ((HA.out.2.1.cell hp5).symm.trans hc5')⟩
          have HAd := Lib.hid (HA.out.below (Below.refl _ _).drew)
          clear hp1 hp3 hp5
          cases hoj : ok j
          · have HOK2 : Hid (ok (j + 1) = false) := by unfold Hid; rw [HOJ.out, hoj]; rfl
            go_upto_region 22 with (fail)
            refine wp_region_held_drew (S := fun w' => Below wo.heap.size wo w' ∧ w'.cell? (ad1.add k) = some (.slice (some ad5) n c5) ∧ w'.cell? (ad3.add j) = some (.int .i64 cj) ∧ w'.cell? (ad5.add j) = some (.int .i64 rj)) (by kernel_rfl) (by exact HK3.out _ HA.out.2.1.drew) (fun hHeld => ?_)
            refine wpAnyH_take (i := 0) (oi := ⟨_, _, _, _, _, _⟩) (v := ?vap12314q1n0) rfl (by kernel_rfl) (by kernel_rfl) (by kernel_rfl) (fun _ _ _ h => h) (Or.inl ⟨by rfl, ?hap12314q1n0⟩) (by assumption) ?_
            case hap12314q1n0 => (intro w hSw; (try dsimp only at hSw); go_simp; try with_reducible rfl)
            try simp only [Act.put, List.setIfInBounds_toArray, List.set_cons_zero, List.set_cons_succ]
            refine wpAnyH_take (i := 1) (oi := ⟨_, _, _, _, _, _⟩) (v := ?vap12314q2n1) rfl (by kernel_rfl) (by kernel_rfl) (by kernel_rfl) (fun _ _ _ h => h) (Or.inl ⟨by rfl, ?hap12314q2n1⟩) (by assumption) ?_
            case hap12314q2n1 => (intro w hSw; (try dsimp only at hSw); go_simp; try with_reducible rfl)
            try simp only [Act.put, List.setIfInBounds_toArray, List.set_cons_zero, List.set_cons_succ]
            refine wpAnyH_take (i := 2) (oi := ⟨_, _, _, _, _, _⟩) (v := ?vap12314q3n2) rfl (by kernel_rfl) (by kernel_rfl) (by kernel_rfl) (fun _ _ _ h => h) (Or.inl ⟨by rfl, ?hap12314q3n2⟩) (by assumption) ?_
            case hap12314q3n2 => (intro w hSw; (try dsimp only at hSw); go_simp; try with_reducible rfl)
            try simp only [Act.put, List.setIfInBounds_toArray, List.set_cons_zero, List.set_cons_succ]
            refine wpAnyH_take (i := 3) (oi := ⟨_, _, _, _, _, _⟩) (v := ?vap12314q4n3) rfl (by kernel_rfl) (by kernel_rfl) (by kernel_rfl) (fun _ _ _ h => h) (Or.inl ⟨by rfl, ?hap12314q4n3⟩) (by assumption) ?_
            case hap12314q4n3 => (intro w hSw; (try dsimp only at hSw); go_simp; try with_reducible rfl)
            try simp only [Act.put, List.setIfInBounds_toArray, List.set_cons_zero, List.set_cons_succ]
            refine wpAnyH_take (i := 4) (oi := ⟨_, _, _, _, _, _⟩) (v := ?vap12314q5n4) rfl (by kernel_rfl) (by kernel_rfl) (by kernel_rfl) (fun _ _ _ h => h) (Or.inl ⟨by rfl, ?hap12314q5n4⟩) (by assumption) ?_
            case hap12314q5n4 => (intro w hSw; (try dsimp only at hSw); go_simp; try with_reducible rfl)
            try simp only [Act.put, List.setIfInBounds_toArray, List.set_cons_zero, List.set_cons_succ]
            refine wpAnyH_take (i := 5) (oi := ⟨_, _, _, _, _, _⟩) (v := ?vap12314q6n5) rfl (by kernel_rfl) (by kernel_rfl) (by kernel_rfl) (fun _ _ _ h => h) (Or.inl ⟨by rfl, ?hap12314q6n5⟩) (by assumption) ?_
            case hap12314q6n5 => (intro w hSw; (try dsimp only at hSw); go_simp; try with_reducible rfl)
            try simp only [Act.put, List.setIfInBounds_toArray, List.set_cons_zero, List.set_cons_succ]
            refine wpAnyH_take (i := 6) (oi := ⟨_, _, _, _, _, _⟩) (v := ?vap12314q7n6) rfl (by kernel_rfl) (by kernel_rfl) (by kernel_rfl) (fun _ _ _ h => h) (Or.inl ⟨by rfl, ?hap12314q7n6⟩) (by assumption) ?_
            case hap12314q7n6 => (intro w hSw; (try dsimp only at hSw); go_simp; try with_reducible rfl)
            try simp only [Act.put, List.setIfInBounds_toArray, List.set_cons_zero, List.set_cons_succ]
            refine wpAnyH_take (i := 7) (oi := ⟨_, _, _, _, _, _⟩) (v := ?vap12314q8n7) rfl (by kernel_rfl) (by kernel_rfl) (by kernel_rfl) (fun _ _ _ h => h) (Or.inl ⟨by rfl, ?hap12314q8n7⟩) (by assumption) ?_
            case hap12314q8n7 => (intro w hSw; (try dsimp only at hSw); go_simp; try with_reducible rfl)
            try simp only [Act.put, List.setIfInBounds_toArray, List.set_cons_zero, List.set_cons_succ]
            refine wpAnyH_take (i := 8) (oi := ⟨_, _, _, _, _, _⟩) (v := ?vap12314q9n8) rfl (by kernel_rfl) (by kernel_rfl) (by kernel_rfl) (fun _ _ _ h => h) (Or.inl ⟨by rfl, ?hap12314q9n8⟩) (by assumption) ?_
            case hap12314q9n8 => (intro w hSw; (try dsimp only at hSw); go_simp; try with_reducible rfl)
            try simp only [Act.put, List.setIfInBounds_toArray, List.set_cons_zero, List.set_cons_succ]
            refine wpAnyH_take (i := 9) (oi := ⟨_, _, _, _, _, _⟩) (v := ?vap12314q10n9) rfl (by kernel_rfl) (by kernel_rfl) (by kernel_rfl) (fun _ _ _ h => h) (Or.inl ⟨by rfl, ?hap12314q10n9⟩) (by assumption) ?_
            case hap12314q10n9 => (intro w hSw; (try dsimp only at hSw); go_simp; try with_reducible rfl)
            try simp only [Act.put, List.setIfInBounds_toArray, List.set_cons_zero, List.set_cons_succ]
            refine wpAnyH_take (i := 10) (oi := ⟨_, _, _, _, _, _⟩) (v := ?vap12314q11n10) rfl (by kernel_rfl) (by kernel_rfl) (by kernel_rfl) (fun _ _ _ h => h) (Or.inl ⟨by rfl, ?hap12314q11n10⟩) (by assumption) ?_
            case hap12314q11n10 => (intro w hSw; (try dsimp only at hSw); go_simp; try with_reducible rfl)
            try simp only [Act.put, List.setIfInBounds_toArray, List.set_cons_zero, List.set_cons_succ]
            refine wpAnyH_take (i := 11) (oi := ⟨_, _, _, _, _, _⟩) (v := ?vap12314q12n11) rfl (by kernel_rfl) (by kernel_rfl) (by kernel_rfl) (fun _ _ _ h => h) (Or.inl ⟨by rfl, ?hap12314q12n11⟩) (by assumption) ?_
            case hap12314q12n11 => (intro w hSw; (try dsimp only at hSw); go_simp; try with_reducible rfl)
            try simp only [Act.put, List.setIfInBounds_toArray, List.set_cons_zero, List.set_cons_succ]
            refine wpAnyH_take (i := 12) (oi := ⟨_, _, _, _, _, _⟩) (v := ?vap12314q13n12) rfl (by kernel_rfl) (by kernel_rfl) (by kernel_rfl) (fun _ _ _ h => h) (Or.inl ⟨by rfl, ?hap12314q13n12⟩) (by assumption) ?_
            case hap12314q13n12 => (intro w hSw; (try dsimp only at hSw); go_simp; try with_reducible rfl)
            try simp only [Act.put, List.setIfInBounds_toArray, List.set_cons_zero, List.set_cons_succ]
            refine wpAnyH_ready (rs := [13]) (by kernel_rfl) (by simp) ?_
            refine AllReadyH.cons (o := ⟨_, _, _, _, _, _⟩) rfl (fun K hK => ?_) AllReadyH.nil
            go_simp
            refine hK.out _ _ (by refine HK3.out _ ?_; first | exact HA.out.2.1.drew.alloc HA.out.2.1.size _ | exact (HA.out.2.1.alloc HA.out.2.1.size _).drew | exact HA2.out.2.1) (fun hHeld => ?_)
            clear hK K
            try simp only [Act.put, List.setIfInBounds_toArray, List.set_cons_zero, List.set_cons_succ]
            refine wpAnyH_ready (rs := [14]) (by kernel_rfl) (by simp) ?_
            refine AllReadyH.cons (o := ⟨_, _, _, _, _, _⟩) rfl (fun K hK => ?_) AllReadyH.nil
            refine step_push okInt (by rfl) _ _ (by rfl) HAd.out (by rfl) sz _ (by rfl) _ (by rfl) (by rfl) (by have := HLJ.out; omega) ?_
            intro x2 w2 HA2 HG2
            rw [← HAJ.out] at HA2
            clear HG2
            refine hK.out _ _ (by refine HK3.out _ ?_; first | exact HA.out.2.1.drew.alloc HA.out.2.1.size _ | exact (HA.out.2.1.alloc HA.out.2.1.size _).drew | exact HA2.out.2.1) (fun hHeld => ?_)
            clear hK K
            try simp only [Act.put, List.setIfInBounds_toArray, List.set_cons_zero, List.set_cons_succ]
            refine wpAnyH_take (i := 15) (oi := ⟨_, _, _, _, _, _⟩) (v := ?vap12314q14n15) rfl (by kernel_rfl) (by kernel_rfl) (by kernel_rfl) (fun _ _ _ h => h) (Or.inl ⟨by rfl, ?hap12314q14n15⟩) (by assumption) ?_
            case hap12314q14n15 => (intro w hSw; (try dsimp only at hSw); go_simp; try with_reducible rfl)
            try simp only [Act.put, List.setIfInBounds_toArray, List.set_cons_zero, List.set_cons_succ]
            refine wpAnyH_done (by kernel_rfl) ?_ _
            go_wp2_with fail
            go_roundw
            case rel => exact ⟨j + 1, _, by omega, rfl, by rw [HOK2.out], by go_num, HA2⟩
            case measure => simp [intOf]; omega
          · have HOK2 : Hid (ok (j + 1) = inB sz 0 1) := by unfold Hid; rw [HOJ.out, hoj]; rfl
            have hj2 : (j : Int) < ((j + 1 : Nat) : Int) := by omega
            go_upto_region 22 with (fail)
            refine wp_region_held_drew (S := fun w' => Below wo.heap.size wo w' ∧ w'.cell? (ad1.add k) = some (.slice (some ad5) n c5) ∧ w'.cell? (ad3.add j) = some (.int .i64 cj) ∧ w'.cell? (ad5.add j) = some (.int .i64 rj)) (by kernel_rfl) (by exact HK3.out _ HA.out.2.1.drew) (fun hHeld => ?_)
            refine wpAnyH_take (i := 0) (oi := ⟨_, _, _, _, _, _⟩) (v := ?vap12315q1n0) rfl (by kernel_rfl) (by kernel_rfl) (by kernel_rfl) (fun _ _ _ h => h) (Or.inl ⟨by rfl, ?hap12315q1n0⟩) (by assumption) ?_
            case hap12315q1n0 => (intro w hSw; (try dsimp only at hSw); go_simp; try with_reducible rfl)
            try simp only [Act.put, List.setIfInBounds_toArray, List.set_cons_zero, List.set_cons_succ]
            refine wpAnyH_take (i := 1) (oi := ⟨_, _, _, _, _, _⟩) (v := ?vap12315q2n1) rfl (by kernel_rfl) (by kernel_rfl) (by kernel_rfl) (fun _ _ _ h => h) (Or.inl ⟨by rfl, ?hap12315q2n1⟩) (by assumption) ?_
            case hap12315q2n1 => (intro w hSw; (try dsimp only at hSw); go_simp; try with_reducible rfl)
            try simp only [Act.put, List.setIfInBounds_toArray, List.set_cons_zero, List.set_cons_succ]
            refine wpAnyH_take (i := 2) (oi := ⟨_, _, _, _, _, _⟩) (v := ?vap12315q3n2) rfl (by kernel_rfl) (by kernel_rfl) (by kernel_rfl) (fun _ _ _ h => h) (Or.inl ⟨by rfl, ?hap12315q3n2⟩) (by assumption) ?_
            case hap12315q3n2 => (intro w hSw; (try dsimp only at hSw); go_simp; try with_reducible rfl)
            try simp only [Act.put, List.setIfInBounds_toArray, List.set_cons_zero, List.set_cons_succ]
            refine wpAnyH_take (i := 3) (oi := ⟨_, _, _, _, _, _⟩) (v := ?vap12315q4n3) rfl (by kernel_rfl) (by kernel_rfl) (by kernel_rfl) (fun _ _ _ h => h) (Or.inl ⟨by rfl, ?hap12315q4n3⟩) (by assumption) ?_
            case hap12315q4n3 => (intro w hSw; (try dsimp only at hSw); go_simp; try with_reducible rfl)
            try simp only [Act.put, List.setIfInBounds_toArray, List.set_cons_zero, List.set_cons_succ]
            refine wpAnyH_take (i := 4) (oi := ⟨_, _, _, _, _, _⟩) (v := ?vap12315q5n4) rfl (by kernel_rfl) (by kernel_rfl) (by kernel_rfl) (fun _ _ _ h => h) (Or.inl ⟨by rfl, ?hap12315q5n4⟩) (by assumption) ?_
            case hap12315q5n4 => (intro w hSw; (try dsimp only at hSw); go_simp; try with_reducible rfl)
            try simp only [Act.put, List.setIfInBounds_toArray, List.set_cons_zero, List.set_cons_succ]
            refine wpAnyH_take (i := 5) (oi := ⟨_, _, _, _, _, _⟩) (v := ?vap12315q6n5) rfl (by kernel_rfl) (by kernel_rfl) (by kernel_rfl) (fun _ _ _ h => h) (Or.inl ⟨by rfl, ?hap12315q6n5⟩) (by assumption) ?_
            case hap12315q6n5 => (intro w hSw; (try dsimp only at hSw); go_simp; try with_reducible rfl)
            try simp only [Act.put, List.setIfInBounds_toArray, List.set_cons_zero, List.set_cons_succ]
            refine wpAnyH_take (i := 6) (oi := ⟨_, _, _, _, _, _⟩) (v := ?vap12315q7n6) rfl (by kernel_rfl) (by kernel_rfl) (by kernel_rfl) (fun _ _ _ h => h) (Or.inl ⟨by rfl, ?hap12315q7n6⟩) (by assumption) ?_
            case hap12315q7n6 => (intro w hSw; (try dsimp only at hSw); go_simp; try with_reducible rfl)
            try simp only [Act.put, List.setIfInBounds_toArray, List.set_cons_zero, List.set_cons_succ]
            refine wpAnyH_take (i := 7) (oi := ⟨_, _, _, _, _, _⟩) (v := ?vap12315q8n7) rfl (by kernel_rfl) (by kernel_rfl) (by kernel_rfl) (fun _ _ _ h => h) (Or.inl ⟨by rfl, ?hap12315q8n7⟩) (by assumption) ?_
            case hap12315q8n7 => (intro w hSw; (try dsimp only at hSw); go_simp; try with_reducible rfl)
            try simp only [Act.put, List.setIfInBounds_toArray, List.set_cons_zero, List.set_cons_succ]
            refine wpAnyH_take (i := 8) (oi := ⟨_, _, _, _, _, _⟩) (v := ?vap12315q9n8) rfl (by kernel_rfl) (by kernel_rfl) (by kernel_rfl) (fun _ _ _ h => h) (Or.inl ⟨by rfl, ?hap12315q9n8⟩) (by assumption) ?_
            case hap12315q9n8 => (intro w hSw; (try dsimp only at hSw); go_simp; try with_reducible rfl)
            try simp only [Act.put, List.setIfInBounds_toArray, List.set_cons_zero, List.set_cons_succ]
            refine wpAnyH_take (i := 9) (oi := ⟨_, _, _, _, _, _⟩) (v := ?vap12315q10n9) rfl (by kernel_rfl) (by kernel_rfl) (by kernel_rfl) (fun _ _ _ h => h) (Or.inl ⟨by rfl, ?hap12315q10n9⟩) (by assumption) ?_
            case hap12315q10n9 => (intro w hSw; (try dsimp only at hSw); go_simp; try with_reducible rfl)
            try simp only [Act.put, List.setIfInBounds_toArray, List.set_cons_zero, List.set_cons_succ]
            refine wpAnyH_take (i := 10) (oi := ⟨_, _, _, _, _, _⟩) (v := ?vap12315q11n10) rfl (by kernel_rfl) (by kernel_rfl) (by kernel_rfl) (fun _ _ _ h => h) (Or.inl ⟨by rfl, ?hap12315q11n10⟩) (by assumption) ?_
            case hap12315q11n10 => (intro w hSw; (try dsimp only at hSw); go_simp; try with_reducible rfl)
            try simp only [Act.put, List.setIfInBounds_toArray, List.set_cons_zero, List.set_cons_succ]
            refine wpAnyH_take (i := 11) (oi := ⟨_, _, _, _, _, _⟩) (v := ?vap12315q12n11) rfl (by kernel_rfl) (by kernel_rfl) (by kernel_rfl) (fun _ _ _ h => h) (Or.inl ⟨by rfl, ?hap12315q12n11⟩) (by assumption) ?_
            case hap12315q12n11 => (intro w hSw; (try dsimp only at hSw); go_simp; try with_reducible rfl)
            try simp only [Act.put, List.setIfInBounds_toArray, List.set_cons_zero, List.set_cons_succ]
            refine wpAnyH_take (i := 12) (oi := ⟨_, _, _, _, _, _⟩) (v := ?vap12315q13n12) rfl (by kernel_rfl) (by kernel_rfl) (by kernel_rfl) (fun _ _ _ h => h) (Or.inl ⟨by rfl, ?hap12315q13n12⟩) (by assumption) ?_
            case hap12315q13n12 => (intro w hSw; (try dsimp only at hSw); go_simp; try with_reducible rfl)
            try simp only [Act.put, List.setIfInBounds_toArray, List.set_cons_zero, List.set_cons_succ]
            refine wpAnyH_ready (rs := [13]) (by kernel_rfl) (by simp) ?_
            refine AllReadyH.cons (o := ⟨_, _, _, _, _, _⟩) rfl (fun K hK => ?_) AllReadyH.nil
            go_simp
            refine hK.out _ _ (by refine HK3.out _ ?_; first | exact HA.out.2.1.drew.alloc HA.out.2.1.size _ | exact (HA.out.2.1.alloc HA.out.2.1.size _).drew | exact HA2.out.2.1) (fun hHeld => ?_)
            clear hK K
            try simp only [Act.put, List.setIfInBounds_toArray, List.set_cons_zero, List.set_cons_succ]
            refine wpAnyH_ready (rs := [14]) (by kernel_rfl) (by simp) ?_
            refine AllReadyH.cons (o := ⟨_, _, _, _, _, _⟩) rfl (fun K hK => ?_) AllReadyH.nil
            refine step_push okInt (by rfl) _ _ (by rfl) HAd.out (by rfl) sz _ (by rfl) _ (by rfl) (by rfl) (by have := HLJ.out; omega) ?_
            intro x2 w2 HA2 HG2
            rw [← HAJ.out] at HA2
            clear HG2
            refine hK.out _ _ (by refine HK3.out _ ?_; first | exact HA.out.2.1.drew.alloc HA.out.2.1.size _ | exact (HA.out.2.1.alloc HA.out.2.1.size _).drew | exact HA2.out.2.1) (fun hHeld => ?_)
            clear hK K
            try simp only [Act.put, List.setIfInBounds_toArray, List.set_cons_zero, List.set_cons_succ]
            refine wpAnyH_take (i := 15) (oi := ⟨_, _, _, _, _, _⟩) (v := ?vap12315q14n15) rfl (by kernel_rfl) (by kernel_rfl) (by kernel_rfl) (fun _ _ _ h => h) (Or.inl ⟨by rfl, ?hap12315q14n15⟩) (by assumption) ?_
            case hap12315q14n15 => (intro w hSw; (try dsimp only at hSw); go_simp; try with_reducible rfl)
            try simp only [Act.put, List.setIfInBounds_toArray, List.set_cons_zero, List.set_cons_succ]
            refine wpAnyH_done (by kernel_rfl) ?_ _
            obtain ⟨ad6, c6, hx2, r1, r2, hc6⟩ := last_of HA2.out (HADL.out (j + 1)) (HAJ.out) (HLJ.out)
            subst hx2
            go_wp2_with fail
            refine (l01In_any _ _ _ _).mono ?_
            rintro e9 w9 ⟨rfl, rfl⟩
            go_wp2_with fail
            go_roundw
            case rel => exact ⟨j + 1, _, by omega, rfl, by rw [HOK2.out], by go_num, HA2⟩
            case measure => simp [intOf]; omega
        · obtain rfl : n = j := by omega
          have htj : decide ((n : Int) < (n : Int)) = false := by simp
          cases hoj : ok n
          · have HSK2 : Hid (st (k + 1) = st k) := by unfold Hid; rw [HSK.out, hoj]; rfl
            have HN2 := Lib.hid (HN.out.below HA.out.2.1)
            go_wp2_with fail
            go_roundw
            case rel => exact ⟨k + 1, _, hi, by omega, rfl, by go_num, by rw [HSK2.out]; exact HN2⟩
            case measure => simp [intOf]; omega
          · have HSK2 : Hid (st (k + 1) = st k ++ rec (hd ++ [row]) (ad n)) := by unfold Hid; rw [HSK.out, hoj]; rfl
            have H01 : Hid (InB01 (ad n) n) := fun j hj => by rw [HADE.out j hj]; exact HOKI.out hoj j hj
            obtain ⟨ss, hs1, hs2, hs3⟩ := HRD2.out.split
            rw [HM.out] at hs1
            have HSS1 := Lib.hid hs1; have HSS3 := Lib.hid hs3
            have hk0 : (0 : Int) ≤ (k : Int) := by omega
            have hk1 : (k : Int) < (R : Int) := by omega
            have hsl : ss.length = m := hs2.trans HM.out
            have HLS : Hid ((st k).length ≤ 81 * 81 ^ d ∧ (rec (hd ++ [row]) (ad n)).length ≤ 81 ^ d) := ⟨Nat.le_trans (HSL.out k) (Nat.mul_le_mul_right _ (by omega)), HRCL.out _ _⟩
            go_upto_region 25 with (fail)
            obtain ⟨W0, hW0⟩ : ∃ W0, wr.drew = W0 := ⟨_, rfl⟩
            have hbd : Below wr.heap.size wr W0 := by rw [← hW0]; exact (Below.refl _ _).drew
            have HX0 := Lib.hid (HA.out.below hbd)
            have HN0 := Lib.hid ((HN.out.below HA.out.2.1).below hbd)
            have HBB := Lib.hid (HBW2.out.trans (hbd.mono HBW2.out.size))
            have hpS : (ad1.add k).block < w.heap.size := by rw [addBlock]; omega
            have hcS : w.cell? (ad1.add k) = some (.slice A5 n c5) := hr1
            have HBc : Hid (Below W0.heap.size W0 W0) := Below.refl _ _
            have HHM := HM.out; have HHLM := HLM.out
            clear hs1 hs3 hbd hr2 hr1 HA HN HBW2 HBW HSK HADS HOKS HOKI HAD0 HOK0 HACC HBD hoj HADE
            refine wp_region_held_drew (S := fun w' => Below w.heap.size w w' ∧ w'.cell? (ad1.add k) = some (.slice A5 n c5)) (by kernel_rfl) (by rw [hW0]; exact keepS hpS hcS HBB.out) (fun hHeld => ?_)
            rw [hW0] at hHeld ⊢
            refine wpAnyH_take (i := 0) (oi := ⟨_, _, _, _, _, _⟩) (v := ?vap12316q1n0) rfl (by kernel_rfl) (by kernel_rfl) (by kernel_rfl) (fun _ _ _ h => h) (Or.inl ⟨by rfl, ?hap12316q1n0⟩) (by assumption) ?_
            case hap12316q1n0 => (intro w hSw; (try dsimp only at hSw); go_simp; try with_reducible rfl)
            try simp only [Act.put, List.setIfInBounds_toArray, List.set_cons_zero, List.set_cons_succ]
            refine wpAnyH_take (i := 1) (oi := ⟨_, _, _, _, _, _⟩) (v := ?vap12316q2n1) rfl (by kernel_rfl) (by kernel_rfl) (by kernel_rfl) (fun _ _ _ h => h) (Or.inl ⟨by rfl, ?hap12316q2n1⟩) (by assumption) ?_
            case hap12316q2n1 => (intro w hSw; (try dsimp only at hSw); go_simp; try with_reducible rfl)
            try simp only [Act.put, List.setIfInBounds_toArray, List.set_cons_zero, List.set_cons_succ]
            refine wpAnyH_take (i := 2) (oi := ⟨_, _, _, _, _, _⟩) (v := ?vap12316q3n2) rfl (by kernel_rfl) (by kernel_rfl) (by kernel_rfl) (fun _ _ _ h => h) (Or.inl ⟨by rfl, ?hap12316q3n2⟩) (by assumption) ?_
            case hap12316q3n2 => (intro w hSw; (try dsimp only at hSw); go_simp; try with_reducible rfl)
            try simp only [Act.put, List.setIfInBounds_toArray, List.set_cons_zero, List.set_cons_succ]
            refine wpAnyH_take (i := 4) (oi := ⟨_, _, _, _, _, _⟩) (v := ?vap12316q4n4) rfl (by kernel_rfl) (by kernel_rfl) (by kernel_rfl) (fun _ _ _ h => h) (Or.inl ⟨by rfl, ?hap12316q4n4⟩) (by assumption) ?_
            case hap12316q4n4 => (intro w hSw; (try dsimp only at hSw); go_simp; try with_reducible rfl)
            try simp only [Act.put, List.setIfInBounds_toArray, List.set_cons_zero, List.set_cons_succ]
            refine wpAnyH_take (i := 7) (oi := ⟨_, _, _, _, _, _⟩) (v := ?vap12316q5n7) rfl (by kernel_rfl) (by kernel_rfl) (by kernel_rfl) (fun _ _ _ h => h) (Or.inl ⟨by rfl, ?hap12316q5n7⟩) (by assumption) ?_
            case hap12316q5n7 => (intro w hSw; (try dsimp only at hSw); go_simp; try with_reducible rfl)
            try simp only [Act.put, List.setIfInBounds_toArray, List.set_cons_zero, List.set_cons_succ]
            refine wpAnyH_take (i := 8) (oi := ⟨_, _, _, _, _, _⟩) (v := ?vap12316q6n8) rfl (by kernel_rfl) (by kernel_rfl) (by kernel_rfl) (fun _ _ _ h => h) (Or.inl ⟨by rfl, ?hap12316q6n8⟩) (by assumption) ?_
            case hap12316q6n8 => (intro w hSw; (try dsimp only at hSw); go_simp; try with_reducible rfl)
            try simp only [Act.put, List.setIfInBounds_toArray, List.set_cons_zero, List.set_cons_succ]
            refine wpAnyH_take (i := 9) (oi := ⟨_, _, _, _, _, _⟩) (v := ?vap12316q7n9) rfl (by kernel_rfl) (by kernel_rfl) (by kernel_rfl) (fun _ _ _ h => h) (Or.inl ⟨by rfl, ?hap12316q7n9⟩) (by assumption) ?_
            case hap12316q7n9 => (intro w hSw; (try dsimp only at hSw); go_simp; try with_reducible rfl)
            try simp only [Act.put, List.setIfInBounds_toArray, List.set_cons_zero, List.set_cons_succ]
            refine wpAnyH_take (i := 10) (oi := ⟨_, _, _, _, _, _⟩) (v := ?vap12316q8n10) rfl (by kernel_rfl) (by kernel_rfl) (by kernel_rfl) (fun _ _ _ h => h) (Or.inl ⟨by rfl, ?hap12316q8n10⟩) (by assumption) ?_
            case hap12316q8n10 => (intro w hSw; (try dsimp only at hSw); go_simp; try with_reducible rfl)
            try simp only [Act.put, List.setIfInBounds_toArray, List.set_cons_zero, List.set_cons_succ]
            refine wpAnyH_take (i := 14) (oi := ⟨_, _, _, _, _, _⟩) (v := ?vap12316q9n14) rfl (by kernel_rfl) (by kernel_rfl) (by kernel_rfl) (fun _ _ _ h => h) (Or.inl ⟨by rfl, ?hap12316q9n14⟩) (by assumption) ?_
            case hap12316q9n14 => (intro w hSw; (try dsimp only at hSw); go_simp; try with_reducible rfl)
            try simp only [Act.put, List.setIfInBounds_toArray, List.set_cons_zero, List.set_cons_succ]
            refine wpAnyH_ready (rs := [3, 6]) (by kernel_rfl) (by simp) ?_
            refine AllReadyH.cons (o := ⟨_, _, _, _, _, _⟩) rfl (fun K hK => ?cp12316q10n3) (AllReadyH.cons (o := ⟨_, _, _, _, _, _⟩) rfl (fun K hK => ?cp12316q10n6) AllReadyH.nil)
            case cp12316q10n3 =>
              go_simp
              obtain ⟨W1, hWn, hkn, hbn⟩ := one_alloc W0 (.cells #[] 31)
              rw [← hWn]
              obtain ⟨p3, hp3⟩ : ∃ p3, W0.heap.size = p3 := ⟨_, rfl⟩
              have HP : Hid (Acc eRA W0 W0.heap.size W1 (.slice (some ⟨p3, 0, none⟩) 0 0) []) := by rw [hWn, ← hp3]; exact Acc.startAt HBc.out (Nat.le_refl _) HBc.out.size
              try (have HNE : Hid (q6 ≠ p3) := by have := lt_of_block HQ.out.1; unfold Hid; omega)
              try (have HQ : Hid (W1.heap[q6]? = some (.cells #[] 3 (0, 0)) ∧ W0.heap.size ≤ q6) := ⟨blk_below HQ.out.1 hbn, HQ.out.2⟩)
              have HBc := Lib.hid (HBc.out.trans (hbn.mono HBc.out.size))
              rw [hp3]
              clear hWn hkn hbn hp3
              refine hK.out _ _ (by first | exact keepS hpS hcS HA16.2.1 | exact keepS hpS hcS (HBB.out.trans (HBc.out.mono HBB.out.size)) | exact keepS hpS hcS ((HBB.out.trans (HBc.out.mono HBB.out.size)).alloc (Nat.le_trans HBB.out.size HBc.out.size) _)) (fun hHeld => ?_)
              clear hK K
              try simp only [Act.put, List.setIfInBounds_toArray, List.set_cons_zero, List.set_cons_succ]
              refine wpAnyH_ready (rs := [5, 6]) (by kernel_rfl) (by simp) ?_
              refine AllReadyH.cons (o := ⟨_, _, _, _, _, _⟩) rfl (fun K hK => ?cp12316q11n5) (AllReadyH.cons (o := ⟨_, _, _, _, _, _⟩) rfl (fun K hK => ?cp12316q11n6) AllReadyH.nil)
              case cp12316q11n5 =>
                refine step_pushSrcF okRowA (by rfl) _ _ (by rfl) HP.out (by rfl) ss B (.slice A2 m c2) (HSS1.out.below ((HBB.out.trans (HBc.out.mono HBB.out.size)).mono hB)) (by rfl) (by simp; omega) ?_
                intro v5 W2 HP5 HG5
                try (have HV5 : Hid (∀ k, v5.ownBlock = some k → k ≠ q6) := fun k hk => HG5.out.2.elim (fun e => by rw [hk] at e; simp only [Value.ownBlock, Option.some.injEq] at e; have := HNE.out; omega) (fun e => by rw [hk] at e; simp only [Option.some.injEq] at e; have := lt_of_block HQ.out.1; omega))
                try (have HQ : Hid (W2.heap[q6]? = some (.cells #[] 3 (0, 0)) ∧ W0.heap.size ≤ q6) := ⟨(HG5.out.1.block q6 (lt_of_block HQ.out.1) (fun e => HNE.out (Option.some.inj e))).trans HQ.out.1, HQ.out.2⟩)
                have HP : Hid (Acc eRA W0 W0.heap.size W2 v5 ss) := HP5.out
                have HBc := Lib.hid HP5.out.2.1
                clear HP5 HG5
                refine hK.out _ _ (by first | exact keepS hpS hcS HA16.2.1 | exact keepS hpS hcS (HBB.out.trans (HBc.out.mono HBB.out.size)) | exact keepS hpS hcS ((HBB.out.trans (HBc.out.mono HBB.out.size)).alloc (Nat.le_trans HBB.out.size HBc.out.size) _)) (fun hHeld => ?_)
                clear hK K
                try simp only [Act.put, List.setIfInBounds_toArray, List.set_cons_zero, List.set_cons_succ]
                refine wpAnyH_ready (rs := [6]) (by kernel_rfl) (by simp) ?_
                refine AllReadyH.cons (o := ⟨_, _, _, _, _, _⟩) rfl (fun K hK => ?_) AllReadyH.nil
                go_simp
                obtain ⟨W3, hWn, hkn, hbn⟩ := one_alloc W2 (.cells #[] 3)
                rw [← hWn]
                obtain ⟨q6, hq6⟩ : ∃ q6, W2.heap.size = q6 := ⟨_, rfl⟩
                rw [hq6] at hkn ⊢
                try (have HNE : Hid (q6 ≠ p3) := by have := (HP.out.1.lt p3 rfl).2; unfold Hid; omega)
                try (have HV5 : Hid (∀ k, v5.ownBlock = some k → k ≠ q6) := fun k hk => by have := (HP.out.1.lt k hk).2; omega)
                have HQ : Hid (W3.heap[q6]? = some (.cells #[] 3 (0, 0)) ∧ W0.heap.size ≤ q6) := ⟨hkn, by rw [← hq6]; exact HBc.out.size⟩
                try (have HP := Lib.hid (HP.out.below hbn))
                have HBc := Lib.hid (HBc.out.trans (hbn.mono HBc.out.size))
                clear hWn hkn hbn hq6
                refine hK.out _ _ (by first | exact keepS hpS hcS HA16.2.1 | exact keepS hpS hcS (HBB.out.trans (HBc.out.mono HBB.out.size)) | exact keepS hpS hcS ((HBB.out.trans (HBc.out.mono HBB.out.size)).alloc (Nat.le_trans HBB.out.size HBc.out.size) _)) (fun hHeld => ?_)
                clear hK K
                try simp only [Act.put, List.setIfInBounds_toArray, List.set_cons_zero, List.set_cons_succ]
                refine wpAnyH_ready (rs := [11]) (by kernel_rfl) (by simp) ?_
                refine AllReadyH.cons (o := ⟨_, _, _, _, _, _⟩) rfl (fun K hK => ?_) AllReadyH.nil
                refine step_pushSrcF okInt (by rfl) _ _ (by rfl) (acc_blk HQ.out.1 HQ.out.2 HBc.out) (by rfl) row B (.slice A5 n c5) (rdI_F (HRR.out.below ((HBB.out.trans (HBc.out.mono HBB.out.size)).mono hB))) (by rfl) (by simp; have := HRN.out; omega) ?_
                intro v11 W4 HR11 HG11
                rw [List.nil_append] at HR11
                have HX11 : Hid (∀ g, v11.ownBlock = some g → v5.ownBlock = some g → False) := fun g hg hk => by
                  rcases HG11.out.2 with e | e
                  · rw [hg] at e; simp only [Value.ownBlock, Option.some.injEq] at e; exact HV5.out g hk e
                  · rw [hg] at e; simp only [Option.some.injEq] at e; have := (HP.out.1.lt g hk).2; omega
                have HP := Lib.hid (acc_same HP.out HR11.out.2.1 HG11.out.1.size (fun g hg => HG11.out.1.block g (HP.out.1.lt g hg).2 (fun e => HV5.out g hg (Option.some.inj e))))
                obtain ⟨A11, c11, hv11, t1, t2, _⟩ := (ownF_int.1 HR11.out.1).rd
                rw [HRN.out] at hv11 t1
                unfold maxLen at t2
                subst hv11
                have HBc := Lib.hid HR11.out.2.1
                clear HG11
                refine hK.out _ _ (by first | exact keepS hpS hcS HA16.2.1 | exact keepS hpS hcS (HBB.out.trans (HBc.out.mono HBB.out.size)) | exact keepS hpS hcS ((HBB.out.trans (HBc.out.mono HBB.out.size)).alloc (Nat.le_trans HBB.out.size HBc.out.size) _)) (fun hHeld => ?_)
                clear hK K
                try simp only [Act.put, List.setIfInBounds_toArray, List.set_cons_zero, List.set_cons_succ]
                refine wpAnyH_ready (rs := [12]) (by kernel_rfl) (by simp) ?_
                refine AllReadyH.cons (o := ⟨_, _, _, _, _, _⟩) rfl (fun K hK => ?_) AllReadyH.nil
                go_simp
                refine hK.out _ _ (by first | exact keepS hpS hcS HA16.2.1 | exact keepS hpS hcS (HBB.out.trans (HBc.out.mono HBB.out.size)) | exact keepS hpS hcS ((HBB.out.trans (HBc.out.mono HBB.out.size)).alloc (Nat.le_trans HBB.out.size HBc.out.size) _)) (fun hHeld => ?_)
                clear hK K
                try simp only [Act.put, List.setIfInBounds_toArray, List.set_cons_zero, List.set_cons_succ]
                refine wpAnyH_ready (rs := [13]) (by kernel_rfl) (by simp) ?_
                refine AllReadyH.cons (o := ⟨_, _, _, _, _, _⟩) rfl (fun K hK => ?_) AllReadyH.nil
                refine step_push okRowA (by rfl) _ _ (by rfl) HP.out (by rfl) (A11, n, c11) _ (by rfl) W4.heap.size (by rfl) (by rfl) (by omega) ?_
                intro v13 W5 HP13 HG13
                have HR13 : Hid (RdI W5 W5.heap.size (.slice A11 n c11) row) := (ownF_int.1 (HR11.out.1.same (fun g hg => HG13.out.1.block g (HR11.out.1.lt g hg).2 (fun e => HX11.out g hg e.symm)))).rd
                have HBc := Lib.hid HP13.out.2.1
                clear HG13
                refine hK.out _ _ (by first | exact keepS hpS hcS HA16.2.1 | exact keepS hpS hcS (HBB.out.trans (HBc.out.mono HBB.out.size)) | exact keepS hpS hcS ((HBB.out.trans (HBc.out.mono HBB.out.size)).alloc (Nat.le_trans HBB.out.size HBc.out.size) _)) (fun hHeld => ?_)
                clear hK K
                try simp only [Act.put, List.setIfInBounds_toArray, List.set_cons_zero, List.set_cons_succ]
                refine wpAnyH_ready (rs := [15]) (by kernel_rfl) (by simp) ?_
                refine AllReadyH.cons (o := ⟨_, _, _, _, _, _⟩) rfl (fun K hK => ?_) AllReadyH.nil
                go_simp
                go_at_call 122
                have HBW9 := Lib.hid (HBB.out.trans (HBc.out.mono HBB.out.size))
                have HR1 := Lib.hid ((HRD1.out.below (HBW9.out.mono hB)).more (Nat.le_trans hB HBW9.out.size))
                have HR2 := Lib.hid (RdII.snoc (HP13.out.1.rd okRowA) hs2 (fun i s hs => ((HSS3.out i s hs).below (HBW9.out.mono hB)).more (Nat.le_trans hB HBW9.out.size)) HR13.out)
                have HR3 := Lib.hid (((ownF_int.1 HX0.out.1).rd.below HBc.out).more HBc.out.size)
                have HLL : Hid ((hd ++ [row]).length + d = n) := by unfold Hid; rw [List.length_append]; exact HHLM
                have HLR : Hid (∀ i, i < (hd ++ [row]).length → (rw' (hd ++ [row]) i).length = n) := fun i hi => by
                  unfold rw'
                  rw [List.getD_eq_getElem?_getD]
                  by_cases e : i < hd.length
                  · rw [List.getElem?_append_left e, ← List.getD_eq_getElem?_getD]; exact HHD.out i e
                  · simp at hi
                    rw [List.getElem?_append_right (by omega), show i - hd.length = 0 by omega]
                    simpa using HRN.out
                refine (HI.out W5 W5.heap.size _ _ _ (hd ++ [row]) (ad n) HR1.out HR2.out HR3.out (Nat.le_refl _) HLL.out HLR.out (HADL.out n) H01.out).mono ?_
                rintro e15 W6 ⟨v15, hi15, rfl, N15⟩
                obtain ⟨ss15, hA15, hE15, hh15⟩ := N15
                have HA15 := Lib.hid hA15; have HE15 := Lib.hid hE15
                have HLT : Hid (hi ≤ W5.heap.size ∧ hi15 ≤ W6.heap.size ∧ w.heap.size ≤ W5.heap.size) := ⟨Nat.le_trans HN0.out.choose_spec.2.2 HBc.out.size, hh15, HBW9.out.size⟩
                obtain ⟨nc, hnc⟩ : ∃ nc, W5.heap.size = nc := ⟨_, rfl⟩
                rw [hnc] at HE15 HLT
                have HVN : Hid (∀ g, v.ownBlock = some g → g < nc) := fun g hg => by have := (HN0.out.choose_spec.1.lt g hg).2; have := HBc.out.size; omega
                have HBc := Lib.hid (HBc.out.trans (hA15.2.1.mono HBc.out.size))
                clear hA15 hE15 hh15 hnc HR1 HR2 HR3 HP13 HR13
                refine hK.out _ _ (by first | exact keepS hpS hcS HA16.2.1 | exact keepS hpS hcS (HBB.out.trans (HBc.out.mono HBB.out.size)) | exact keepS hpS hcS ((HBB.out.trans (HBc.out.mono HBB.out.size)).alloc (Nat.le_trans HBB.out.size HBc.out.size) _)) (fun hHeld => ?_)
                clear hK K
                try simp only [Act.put, List.setIfInBounds_toArray, List.set_cons_zero, List.set_cons_succ]
                refine wpAnyH_ready (rs := [16]) (by kernel_rfl) (by simp) ?_
                refine AllReadyH.cons (o := ⟨_, _, _, _, _, _⟩) rfl (fun K hK => ?_) AllReadyH.nil
                obtain ⟨ssN, hAN, hEN, hhN⟩ := HN0.out.below HBc.out
                have HEN := Lib.hid hEN; have hhN9 := hhN
                have HSL9 : Hid (ssN.length = (st k).length ∧ ss15.length = (rec (hd ++ [row]) (ad n)).length) := ⟨hEN.1, HE15.out.1⟩
                refine step_pushSrcF okRowsA (by rfl) _ _ (by rfl) hAN (by rfl) ss15 W6.heap.size v15 (HA15.out.1.rd okRowsA) (by rfl) (by have h1 := HSL9.out; have h2 := HLS.out; have h3 := HPW.out; rw [h1.1, h1.2]; generalize 81 ^ d = q at *; omega) ?_
                intro v16 W7 HA16 HG16
                have HN16 : Hid (NRel kdM eMA w w.heap.size w.heap.size W7 W7.heap.size v16 (st k ++ rec (hd ++ [row]) (ad n))) := NRel.append HEN.out hhN9 HE15.out HLT.out.2.2 HLT.out.1 HLT.out.2.1 (fun g hg => .inl (HVN.out g hg)) HA16 HG16
                have HBc16 : Hid (W0.heap.size ≤ W7.heap.size) := Nat.le_trans HBc.out.size HG16.out.1.size
                refine hK.out _ _ (by first | exact keepS hpS hcS HA16.2.1 | exact keepS hpS hcS (HBB.out.trans (HBc.out.mono HBB.out.size)) | exact keepS hpS hcS ((HBB.out.trans (HBc.out.mono HBB.out.size)).alloc (Nat.le_trans HBB.out.size HBc.out.size) _)) (fun hHeld => ?_)
                clear hK K
                try simp only [Act.put, List.setIfInBounds_toArray, List.set_cons_zero, List.set_cons_succ]
                refine wpAnyH_take (i := 17) (oi := ⟨_, _, _, _, _, _⟩) (v := ?vap12316q12n17) rfl (by kernel_rfl) (by kernel_rfl) (by kernel_rfl) (fun _ _ _ h => h) (Or.inl ⟨by rfl, ?hap12316q12n17⟩) (by assumption) ?_
                case hap12316q12n17 => (intro w hSw; (try dsimp only at hSw); go_simp; try with_reducible rfl)
                try simp only [Act.put, List.setIfInBounds_toArray, List.set_cons_zero, List.set_cons_succ]
                refine wpAnyH_done (by kernel_rfl) ?_ _
                go_wp2_with fail
                go_roundw
                case rel => exact ⟨k + 1, _, _, by omega, rfl, by go_num, by rw [HSK2.out]; exact HN16⟩
                case measure => simp [intOf]; omega
              case cp12316q11n6 =>
                go_simp
                obtain ⟨W2, hWn, hkn, hbn⟩ := one_alloc W1 (.cells #[] 3)
                rw [← hWn]
                obtain ⟨q6, hq6⟩ : ∃ q6, W1.heap.size = q6 := ⟨_, rfl⟩
                rw [hq6] at hkn ⊢
                try (have HNE : Hid (q6 ≠ p3) := by have := (HP.out.1.lt p3 rfl).2; unfold Hid; omega)
                try (have HV5 : Hid (∀ k, v5.ownBlock = some k → k ≠ q6) := fun k hk => by have := (HP.out.1.lt k hk).2; omega)
                have HQ : Hid (W2.heap[q6]? = some (.cells #[] 3 (0, 0)) ∧ W0.heap.size ≤ q6) := ⟨hkn, by rw [← hq6]; exact HBc.out.size⟩
                try (have HP := Lib.hid (HP.out.below hbn))
                have HBc := Lib.hid (HBc.out.trans (hbn.mono HBc.out.size))
                clear hWn hkn hbn hq6
                refine hK.out _ _ (by first | exact keepS hpS hcS HA16.2.1 | exact keepS hpS hcS (HBB.out.trans (HBc.out.mono HBB.out.size)) | exact keepS hpS hcS ((HBB.out.trans (HBc.out.mono HBB.out.size)).alloc (Nat.le_trans HBB.out.size HBc.out.size) _)) (fun hHeld => ?_)
                clear hK K
                try simp only [Act.put, List.setIfInBounds_toArray, List.set_cons_zero, List.set_cons_succ]
                refine wpAnyH_ready (rs := [5]) (by kernel_rfl) (by simp) ?_
                refine AllReadyH.cons (o := ⟨_, _, _, _, _, _⟩) rfl (fun K hK => ?_) AllReadyH.nil
                refine step_pushSrcF okRowA (by rfl) _ _ (by rfl) HP.out (by rfl) ss B (.slice A2 m c2) (HSS1.out.below ((HBB.out.trans (HBc.out.mono HBB.out.size)).mono hB)) (by rfl) (by simp; omega) ?_
                intro v5 W3 HP5 HG5
                try (have HV5 : Hid (∀ k, v5.ownBlock = some k → k ≠ q6) := fun k hk => HG5.out.2.elim (fun e => by rw [hk] at e; simp only [Value.ownBlock, Option.some.injEq] at e; have := HNE.out; omega) (fun e => by rw [hk] at e; simp only [Option.some.injEq] at e; have := lt_of_block HQ.out.1; omega))
                try (have HQ : Hid (W3.heap[q6]? = some (.cells #[] 3 (0, 0)) ∧ W0.heap.size ≤ q6) := ⟨(HG5.out.1.block q6 (lt_of_block HQ.out.1) (fun e => HNE.out (Option.some.inj e))).trans HQ.out.1, HQ.out.2⟩)
                have HP : Hid (Acc eRA W0 W0.heap.size W3 v5 ss) := HP5.out
                have HBc := Lib.hid HP5.out.2.1
                clear HP5 HG5
                refine hK.out _ _ (by first | exact keepS hpS hcS HA16.2.1 | exact keepS hpS hcS (HBB.out.trans (HBc.out.mono HBB.out.size)) | exact keepS hpS hcS ((HBB.out.trans (HBc.out.mono HBB.out.size)).alloc (Nat.le_trans HBB.out.size HBc.out.size) _)) (fun hHeld => ?_)
                clear hK K
                try simp only [Act.put, List.setIfInBounds_toArray, List.set_cons_zero, List.set_cons_succ]
                refine wpAnyH_ready (rs := [11]) (by kernel_rfl) (by simp) ?_
                refine AllReadyH.cons (o := ⟨_, _, _, _, _, _⟩) rfl (fun K hK => ?_) AllReadyH.nil
                refine step_pushSrcF okInt (by rfl) _ _ (by rfl) (acc_blk HQ.out.1 HQ.out.2 HBc.out) (by rfl) row B (.slice A5 n c5) (rdI_F (HRR.out.below ((HBB.out.trans (HBc.out.mono HBB.out.size)).mono hB))) (by rfl) (by simp; have := HRN.out; omega) ?_
                intro v11 W4 HR11 HG11
                rw [List.nil_append] at HR11
                have HX11 : Hid (∀ g, v11.ownBlock = some g → v5.ownBlock = some g → False) := fun g hg hk => by
                  rcases HG11.out.2 with e | e
                  · rw [hg] at e; simp only [Value.ownBlock, Option.some.injEq] at e; exact HV5.out g hk e
                  · rw [hg] at e; simp only [Option.some.injEq] at e; have := (HP.out.1.lt g hk).2; omega
                have HP := Lib.hid (acc_same HP.out HR11.out.2.1 HG11.out.1.size (fun g hg => HG11.out.1.block g (HP.out.1.lt g hg).2 (fun e => HV5.out g hg (Option.some.inj e))))
                obtain ⟨A11, c11, hv11, t1, t2, _⟩ := (ownF_int.1 HR11.out.1).rd
                rw [HRN.out] at hv11 t1
                unfold maxLen at t2
                subst hv11
                have HBc := Lib.hid HR11.out.2.1
                clear HG11
                refine hK.out _ _ (by first | exact keepS hpS hcS HA16.2.1 | exact keepS hpS hcS (HBB.out.trans (HBc.out.mono HBB.out.size)) | exact keepS hpS hcS ((HBB.out.trans (HBc.out.mono HBB.out.size)).alloc (Nat.le_trans HBB.out.size HBc.out.size) _)) (fun hHeld => ?_)
                clear hK K
                try simp only [Act.put, List.setIfInBounds_toArray, List.set_cons_zero, List.set_cons_succ]
                refine wpAnyH_ready (rs := [12]) (by kernel_rfl) (by simp) ?_
                refine AllReadyH.cons (o := ⟨_, _, _, _, _, _⟩) rfl (fun K hK => ?_) AllReadyH.nil
                go_simp
                refine hK.out _ _ (by first | exact keepS hpS hcS HA16.2.1 | exact keepS hpS hcS (HBB.out.trans (HBc.out.mono HBB.out.size)) | exact keepS hpS hcS ((HBB.out.trans (HBc.out.mono HBB.out.size)).alloc (Nat.le_trans HBB.out.size HBc.out.size) _)) (fun hHeld => ?_)
                clear hK K
                try simp only [Act.put, List.setIfInBounds_toArray, List.set_cons_zero, List.set_cons_succ]
                refine wpAnyH_ready (rs := [13]) (by kernel_rfl) (by simp) ?_
                refine AllReadyH.cons (o := ⟨_, _, _, _, _, _⟩) rfl (fun K hK => ?_) AllReadyH.nil
                refine step_push okRowA (by rfl) _ _ (by rfl) HP.out (by rfl) (A11, n, c11) _ (by rfl) W4.heap.size (by rfl) (by rfl) (by omega) ?_
                intro v13 W5 HP13 HG13
                have HR13 : Hid (RdI W5 W5.heap.size (.slice A11 n c11) row) := (ownF_int.1 (HR11.out.1.same (fun g hg => HG13.out.1.block g (HR11.out.1.lt g hg).2 (fun e => HX11.out g hg e.symm)))).rd
                have HBc := Lib.hid HP13.out.2.1
                clear HG13
                refine hK.out _ _ (by first | exact keepS hpS hcS HA16.2.1 | exact keepS hpS hcS (HBB.out.trans (HBc.out.mono HBB.out.size)) | exact keepS hpS hcS ((HBB.out.trans (HBc.out.mono HBB.out.size)).alloc (Nat.le_trans HBB.out.size HBc.out.size) _)) (fun hHeld => ?_)
                clear hK K
                try simp only [Act.put, List.setIfInBounds_toArray, List.set_cons_zero, List.set_cons_succ]
                refine wpAnyH_ready (rs := [15]) (by kernel_rfl) (by simp) ?_
                refine AllReadyH.cons (o := ⟨_, _, _, _, _, _⟩) rfl (fun K hK => ?_) AllReadyH.nil
                go_simp
                go_at_call 122
                have HBW9 := Lib.hid (HBB.out.trans (HBc.out.mono HBB.out.size))
                have HR1 := Lib.hid ((HRD1.out.below (HBW9.out.mono hB)).more (Nat.le_trans hB HBW9.out.size))
                have HR2 := Lib.hid (RdII.snoc (HP13.out.1.rd okRowA) hs2 (fun i s hs => ((HSS3.out i s hs).below (HBW9.out.mono hB)).more (Nat.le_trans hB HBW9.out.size)) HR13.out)
                have HR3 := Lib.hid (((ownF_int.1 HX0.out.1).rd.below HBc.out).more HBc.out.size)
                have HLL : Hid ((hd ++ [row]).length + d = n) := by unfold Hid; rw [List.length_append]; exact HHLM
                have HLR : Hid (∀ i, i < (hd ++ [row]).length → (rw' (hd ++ [row]) i).length = n) := fun i hi => by
                  unfold rw'
                  rw [List.getD_eq_getElem?_getD]
                  by_cases e : i < hd.length
                  · rw [List.getElem?_append_left e, ← List.getD_eq_getElem?_getD]; exact HHD.out i e
                  · simp at hi
                    rw [List.getElem?_append_right (by omega), show i - hd.length = 0 by omega]
                    simpa using HRN.out
                refine (HI.out W5 W5.heap.size _ _ _ (hd ++ [row]) (ad n) HR1.out HR2.out HR3.out (Nat.le_refl _) HLL.out HLR.out (HADL.out n) H01.out).mono ?_
                rintro e15 W6 ⟨v15, hi15, rfl, N15⟩
                obtain ⟨ss15, hA15, hE15, hh15⟩ := N15
                have HA15 := Lib.hid hA15; have HE15 := Lib.hid hE15
                have HLT : Hid (hi ≤ W5.heap.size ∧ hi15 ≤ W6.heap.size ∧ w.heap.size ≤ W5.heap.size) := ⟨Nat.le_trans HN0.out.choose_spec.2.2 HBc.out.size, hh15, HBW9.out.size⟩
                obtain ⟨nc, hnc⟩ : ∃ nc, W5.heap.size = nc := ⟨_, rfl⟩
                rw [hnc] at HE15 HLT
                have HVN : Hid (∀ g, v.ownBlock = some g → g < nc) := fun g hg => by have := (HN0.out.choose_spec.1.lt g hg).2; have := HBc.out.size; omega
                have HBc := Lib.hid (HBc.out.trans (hA15.2.1.mono HBc.out.size))
                clear hA15 hE15 hh15 hnc HR1 HR2 HR3 HP13 HR13
                refine hK.out _ _ (by first | exact keepS hpS hcS HA16.2.1 | exact keepS hpS hcS (HBB.out.trans (HBc.out.mono HBB.out.size)) | exact keepS hpS hcS ((HBB.out.trans (HBc.out.mono HBB.out.size)).alloc (Nat.le_trans HBB.out.size HBc.out.size) _)) (fun hHeld => ?_)
                clear hK K
                try simp only [Act.put, List.setIfInBounds_toArray, List.set_cons_zero, List.set_cons_succ]
                refine wpAnyH_ready (rs := [16]) (by kernel_rfl) (by simp) ?_
                refine AllReadyH.cons (o := ⟨_, _, _, _, _, _⟩) rfl (fun K hK => ?_) AllReadyH.nil
                obtain ⟨ssN, hAN, hEN, hhN⟩ := HN0.out.below HBc.out
                have HEN := Lib.hid hEN; have hhN9 := hhN
                have HSL9 : Hid (ssN.length = (st k).length ∧ ss15.length = (rec (hd ++ [row]) (ad n)).length) := ⟨hEN.1, HE15.out.1⟩
                refine step_pushSrcF okRowsA (by rfl) _ _ (by rfl) hAN (by rfl) ss15 W6.heap.size v15 (HA15.out.1.rd okRowsA) (by rfl) (by have h1 := HSL9.out; have h2 := HLS.out; have h3 := HPW.out; rw [h1.1, h1.2]; generalize 81 ^ d = q at *; omega) ?_
                intro v16 W7 HA16 HG16
                have HN16 : Hid (NRel kdM eMA w w.heap.size w.heap.size W7 W7.heap.size v16 (st k ++ rec (hd ++ [row]) (ad n))) := NRel.append HEN.out hhN9 HE15.out HLT.out.2.2 HLT.out.1 HLT.out.2.1 (fun g hg => .inl (HVN.out g hg)) HA16 HG16
                have HBc16 : Hid (W0.heap.size ≤ W7.heap.size) := Nat.le_trans HBc.out.size HG16.out.1.size
                refine hK.out _ _ (by first | exact keepS hpS hcS HA16.2.1 | exact keepS hpS hcS (HBB.out.trans (HBc.out.mono HBB.out.size)) | exact keepS hpS hcS ((HBB.out.trans (HBc.out.mono HBB.out.size)).alloc (Nat.le_trans HBB.out.size HBc.out.size) _)) (fun hHeld => ?_)
                clear hK K
                try simp only [Act.put, List.setIfInBounds_toArray, List.set_cons_zero, List.set_cons_succ]
                refine wpAnyH_take (i := 17) (oi := ⟨_, _, _, _, _, _⟩) (v := ?vap12316q13n17) rfl (by kernel_rfl) (by kernel_rfl) (by kernel_rfl) (fun _ _ _ h => h) (Or.inl ⟨by rfl, ?hap12316q13n17⟩) (by assumption) ?_
                case hap12316q13n17 => (intro w hSw; (try dsimp only at hSw); go_simp; try with_reducible rfl)
                try simp only [Act.put, List.setIfInBounds_toArray, List.set_cons_zero, List.set_cons_succ]
                refine wpAnyH_done (by kernel_rfl) ?_ _
                go_wp2_with fail
                go_roundw
                case rel => exact ⟨k + 1, _, _, by omega, rfl, by go_num, by rw [HSK2.out]; exact HN16⟩
                case measure => simp [intOf]; omega
            case cp12316q10n6 =>
              go_simp
              obtain ⟨W1, hWn, hkn, hbn⟩ := one_alloc W0 (.cells #[] 3)
              rw [← hWn]
              obtain ⟨q6, hq6⟩ : ∃ q6, W0.heap.size = q6 := ⟨_, rfl⟩
              rw [hq6] at hkn ⊢
              try (have HNE : Hid (q6 ≠ p3) := by have := (HP.out.1.lt p3 rfl).2; unfold Hid; omega)
              try (have HV5 : Hid (∀ k, v5.ownBlock = some k → k ≠ q6) := fun k hk => by have := (HP.out.1.lt k hk).2; omega)
              have HQ : Hid (W1.heap[q6]? = some (.cells #[] 3 (0, 0)) ∧ W0.heap.size ≤ q6) := ⟨hkn, by rw [← hq6]; exact HBc.out.size⟩
              try (have HP := Lib.hid (HP.out.below hbn))
              have HBc := Lib.hid (HBc.out.trans (hbn.mono HBc.out.size))
              clear hWn hkn hbn hq6
              refine hK.out _ _ (by first | exact keepS hpS hcS HA16.2.1 | exact keepS hpS hcS (HBB.out.trans (HBc.out.mono HBB.out.size)) | exact keepS hpS hcS ((HBB.out.trans (HBc.out.mono HBB.out.size)).alloc (Nat.le_trans HBB.out.size HBc.out.size) _)) (fun hHeld => ?_)
              clear hK K
              try simp only [Act.put, List.setIfInBounds_toArray, List.set_cons_zero, List.set_cons_succ]
              refine wpAnyH_ready (rs := [3]) (by kernel_rfl) (by simp) ?_
              refine AllReadyH.cons (o := ⟨_, _, _, _, _, _⟩) rfl (fun K hK => ?_) AllReadyH.nil
              go_simp
              obtain ⟨W2, hWn, hkn, hbn⟩ := one_alloc W1 (.cells #[] 31)
              rw [← hWn]
              obtain ⟨p3, hp3⟩ : ∃ p3, W1.heap.size = p3 := ⟨_, rfl⟩
              have HP : Hid (Acc eRA W0 W0.heap.size W2 (.slice (some ⟨p3, 0, none⟩) 0 0) []) := by rw [hWn, ← hp3]; exact Acc.startAt HBc.out (Nat.le_refl _) HBc.out.size
              try (have HNE : Hid (q6 ≠ p3) := by have := lt_of_block HQ.out.1; unfold Hid; omega)
              try (have HQ : Hid (W2.heap[q6]? = some (.cells #[] 3 (0, 0)) ∧ W0.heap.size ≤ q6) := ⟨blk_below HQ.out.1 hbn, HQ.out.2⟩)
              have HBc := Lib.hid (HBc.out.trans (hbn.mono HBc.out.size))
              rw [hp3]
              clear hWn hkn hbn hp3
              refine hK.out _ _ (by first | exact keepS hpS hcS HA16.2.1 | exact keepS hpS hcS (HBB.out.trans (HBc.out.mono HBB.out.size)) | exact keepS hpS hcS ((HBB.out.trans (HBc.out.mono HBB.out.size)).alloc (Nat.le_trans HBB.out.size HBc.out.size) _)) (fun hHeld => ?_)
              clear hK K
              try simp only [Act.put, List.setIfInBounds_toArray, List.set_cons_zero, List.set_cons_succ]
              refine wpAnyH_ready (rs := [5]) (by kernel_rfl) (by simp) ?_
              refine AllReadyH.cons (o := ⟨_, _, _, _, _, _⟩) rfl (fun K hK => ?_) AllReadyH.nil
              refine step_pushSrcF okRowA (by rfl) _ _ (by rfl) HP.out (by rfl) ss B (.slice A2 m c2) (HSS1.out.below ((HBB.out.trans (HBc.out.mono HBB.out.size)).mono hB)) (by rfl) (by simp; omega) ?_
              intro v5 W3 HP5 HG5
              try (have HV5 : Hid (∀ k, v5.ownBlock = some k → k ≠ q6) := fun k hk => HG5.out.2.elim (fun e => by rw [hk] at e; simp only [Value.ownBlock, Option.some.injEq] at e; have := HNE.out; omega) (fun e => by rw [hk] at e; simp only [Option.some.injEq] at e; have := lt_of_block HQ.out.1; omega))
              try (have HQ : Hid (W3.heap[q6]? = some (.cells #[] 3 (0, 0)) ∧ W0.heap.size ≤ q6) := ⟨(HG5.out.1.block q6 (lt_of_block HQ.out.1) (fun e => HNE.out (Option.some.inj e))).trans HQ.out.1, HQ.out.2⟩)
              have HP : Hid (Acc eRA W0 W0.heap.size W3 v5 ss) := HP5.out
              have HBc := Lib.hid HP5.out.2.1
              clear HP5 HG5
              refine hK.out _ _ (by first | exact keepS hpS hcS HA16.2.1 | exact keepS hpS hcS (HBB.out.trans (HBc.out.mono HBB.out.size)) | exact keepS hpS hcS ((HBB.out.trans (HBc.out.mono HBB.out.size)).alloc (Nat.le_trans HBB.out.size HBc.out.size) _)) (fun hHeld => ?_)
              clear hK K
              try simp only [Act.put, List.setIfInBounds_toArray, List.set_cons_zero, List.set_cons_succ]
              refine wpAnyH_ready (rs := [11]) (by kernel_rfl) (by simp) ?_
              refine AllReadyH.cons (o := ⟨_, _, _, _, _, _⟩) rfl (fun K hK => ?_) AllReadyH.nil
              refine step_pushSrcF okInt (by rfl) _ _ (by rfl) (acc_blk HQ.out.1 HQ.out.2 HBc.out) (by rfl) row B (.slice A5 n c5) (rdI_F (HRR.out.below ((HBB.out.trans (HBc.out.mono HBB.out.size)).mono hB))) (by rfl) (by simp; have := HRN.out; omega) ?_
              intro v11 W4 HR11 HG11
              rw [List.nil_append] at HR11
              have HX11 : Hid (∀ g, v11.ownBlock = some g → v5.ownBlock = some g → False) := fun g hg hk => by
                rcases HG11.out.2 with e | e
                · rw [hg] at e; simp only [Value.ownBlock, Option.some.injEq] at e; exact HV5.out g hk e
                · rw [hg] at e; simp only [Option.some.injEq] at e; have := (HP.out.1.lt g hk).2; omega
              have HP := Lib.hid (acc_same HP.out HR11.out.2.1 HG11.out.1.size (fun g hg => HG11.out.1.block g (HP.out.1.lt g hg).2 (fun e => HV5.out g hg (Option.some.inj e))))
              obtain ⟨A11, c11, hv11, t1, t2, _⟩ := (ownF_int.1 HR11.out.1).rd
              rw [HRN.out] at hv11 t1
              unfold maxLen at t2
              subst hv11
              have HBc := Lib.hid HR11.out.2.1
              clear HG11
              refine hK.out _ _ (by first | exact keepS hpS hcS HA16.2.1 | exact keepS hpS hcS (HBB.out.trans (HBc.out.mono HBB.out.size)) | exact keepS hpS hcS ((HBB.out.trans (HBc.out.mono HBB.out.size)).alloc (Nat.le_trans HBB.out.size HBc.out.size) _)) (fun hHeld => ?_)
              clear hK K
              try simp only [Act.put, List.setIfInBounds_toArray, List.set_cons_zero, List.set_cons_succ]
              refine wpAnyH_ready (rs := [12]) (by kernel_rfl) (by simp) ?_
              refine AllReadyH.cons (o := ⟨_, _, _, _, _, _⟩) rfl (fun K hK => ?_) AllReadyH.nil
              go_simp
              refine hK.out _ _ (by first | exact keepS hpS hcS HA16.2.1 | exact keepS hpS hcS (HBB.out.trans (HBc.out.mono HBB.out.size)) | exact keepS hpS hcS ((HBB.out.trans (HBc.out.mono HBB.out.size)).alloc (Nat.le_trans HBB.out.size HBc.out.size) _)) (fun hHeld => ?_)
              clear hK K
              try simp only [Act.put, List.setIfInBounds_toArray, List.set_cons_zero, List.set_cons_succ]
              refine wpAnyH_ready (rs := [13]) (by kernel_rfl) (by simp) ?_
              refine AllReadyH.cons (o := ⟨_, _, _, _, _, _⟩) rfl (fun K hK => ?_) AllReadyH.nil
              refine step_push okRowA (by rfl) _ _ (by rfl) HP.out (by rfl) (A11, n, c11) _ (by rfl) W4.heap.size (by rfl) (by rfl) (by omega) ?_
              intro v13 W5 HP13 HG13
              have HR13 : Hid (RdI W5 W5.heap.size (.slice A11 n c11) row) := (ownF_int.1 (HR11.out.1.same (fun g hg => HG13.out.1.block g (HR11.out.1.lt g hg).2 (fun e => HX11.out g hg e.symm)))).rd
              have HBc := Lib.hid HP13.out.2.1
              clear HG13
              refine hK.out _ _ (by first | exact keepS hpS hcS HA16.2.1 | exact keepS hpS hcS (HBB.out.trans (HBc.out.mono HBB.out.size)) | exact keepS hpS hcS ((HBB.out.trans (HBc.out.mono HBB.out.size)).alloc (Nat.le_trans HBB.out.size HBc.out.size) _)) (fun hHeld => ?_)
              clear hK K
              try simp only [Act.put, List.setIfInBounds_toArray, List.set_cons_zero, List.set_cons_succ]
              refine wpAnyH_ready (rs := [15]) (by kernel_rfl) (by simp) ?_
              refine AllReadyH.cons (o := ⟨_, _, _, _, _, _⟩) rfl (fun K hK => ?_) AllReadyH.nil
              go_simp
              go_at_call 122
              have HBW9 := Lib.hid (HBB.out.trans (HBc.out.mono HBB.out.size))
              have HR1 := Lib.hid ((HRD1.out.below (HBW9.out.mono hB)).more (Nat.le_trans hB HBW9.out.size))
              have HR2 := Lib.hid (RdII.snoc (HP13.out.1.rd okRowA) hs2 (fun i s hs => ((HSS3.out i s hs).below (HBW9.out.mono hB)).more (Nat.le_trans hB HBW9.out.size)) HR13.out)
              have HR3 := Lib.hid (((ownF_int.1 HX0.out.1).rd.below HBc.out).more HBc.out.size)
              have HLL : Hid ((hd ++ [row]).length + d = n) := by unfold Hid; rw [List.length_append]; exact HHLM
              have HLR : Hid (∀ i, i < (hd ++ [row]).length → (rw' (hd ++ [row]) i).length = n) := fun i hi => by
                unfold rw'
                rw [List.getD_eq_getElem?_getD]
                by_cases e : i < hd.length
                · rw [List.getElem?_append_left e, ← List.getD_eq_getElem?_getD]; exact HHD.out i e
                · simp at hi
                  rw [List.getElem?_append_right (by omega), show i - hd.length = 0 by omega]
                  simpa using HRN.out
              refine (HI.out W5 W5.heap.size _ _ _ (hd ++ [row]) (ad n) HR1.out HR2.out HR3.out (Nat.le_refl _) HLL.out HLR.out (HADL.out n) H01.out).mono ?_
              rintro e15 W6 ⟨v15, hi15, rfl, N15⟩
              obtain ⟨ss15, hA15, hE15, hh15⟩ := N15
              have HA15 := Lib.hid hA15; have HE15 := Lib.hid hE15
              have HLT : Hid (hi ≤ W5.heap.size ∧ hi15 ≤ W6.heap.size ∧ w.heap.size ≤ W5.heap.size) := ⟨Nat.le_trans HN0.out.choose_spec.2.2 HBc.out.size, hh15, HBW9.out.size⟩
              obtain ⟨nc, hnc⟩ : ∃ nc, W5.heap.size = nc := ⟨_, rfl⟩
              rw [hnc] at HE15 HLT
              have HVN : Hid (∀ g, v.ownBlock = some g → g < nc) := fun g hg => by have := (HN0.out.choose_spec.1.lt g hg).2; have := HBc.out.size; omega
              have HBc := Lib.hid (HBc.out.trans (hA15.2.1.mono HBc.out.size))
              clear hA15 hE15 hh15 hnc HR1 HR2 HR3 HP13 HR13
              refine hK.out _ _ (by first | exact keepS hpS hcS HA16.2.1 | exact keepS hpS hcS (HBB.out.trans (HBc.out.mono HBB.out.size)) | exact keepS hpS hcS ((HBB.out.trans (HBc.out.mono HBB.out.size)).alloc (Nat.le_trans HBB.out.size HBc.out.size) _)) (fun hHeld => ?_)
              clear hK K
              try simp only [Act.put, List.setIfInBounds_toArray, List.set_cons_zero, List.set_cons_succ]
              refine wpAnyH_ready (rs := [16]) (by kernel_rfl) (by simp) ?_
              refine AllReadyH.cons (o := ⟨_, _, _, _, _, _⟩) rfl (fun K hK => ?_) AllReadyH.nil
              obtain ⟨ssN, hAN, hEN, hhN⟩ := HN0.out.below HBc.out
              have HEN := Lib.hid hEN; have hhN9 := hhN
              have HSL9 : Hid (ssN.length = (st k).length ∧ ss15.length = (rec (hd ++ [row]) (ad n)).length) := ⟨hEN.1, HE15.out.1⟩
              refine step_pushSrcF okRowsA (by rfl) _ _ (by rfl) hAN (by rfl) ss15 W6.heap.size v15 (HA15.out.1.rd okRowsA) (by rfl) (by have h1 := HSL9.out; have h2 := HLS.out; have h3 := HPW.out; rw [h1.1, h1.2]; generalize 81 ^ d = q at *; omega) ?_
              intro v16 W7 HA16 HG16
              have HN16 : Hid (NRel kdM eMA w w.heap.size w.heap.size W7 W7.heap.size v16 (st k ++ rec (hd ++ [row]) (ad n))) := NRel.append HEN.out hhN9 HE15.out HLT.out.2.2 HLT.out.1 HLT.out.2.1 (fun g hg => .inl (HVN.out g hg)) HA16 HG16
              have HBc16 : Hid (W0.heap.size ≤ W7.heap.size) := Nat.le_trans HBc.out.size HG16.out.1.size
              refine hK.out _ _ (by first | exact keepS hpS hcS HA16.2.1 | exact keepS hpS hcS (HBB.out.trans (HBc.out.mono HBB.out.size)) | exact keepS hpS hcS ((HBB.out.trans (HBc.out.mono HBB.out.size)).alloc (Nat.le_trans HBB.out.size HBc.out.size) _)) (fun hHeld => ?_)
              clear hK K
              try simp only [Act.put, List.setIfInBounds_toArray, List.set_cons_zero, List.set_cons_succ]
              refine wpAnyH_take (i := 17) (oi := ⟨_, _, _, _, _, _⟩) (v := ?vap12316q14n17) rfl (by kernel_rfl) (by kernel_rfl) (by kernel_rfl) (fun _ _ _ h => h) (Or.inl ⟨by rfl, ?hap12316q14n17⟩) (by assumption) ?_
              case hap12316q14n17 => (intro w hSw; (try dsimp only at hSw); go_simp; try with_reducible rfl)
              try simp only [Act.put, List.setIfInBounds_toArray, List.set_cons_zero, List.set_cons_succ]
              refine wpAnyH_done (by kernel_rfl) ?_ _
              go_wp2_with fail
              go_roundw
              case rel => exact ⟨k + 1, _, _, by omega, rfl, by go_num, by rw [HSK2.out]; exact HN16⟩
              case measure => simp [intOf]; omega
    · obtain rfl : k = R := by omega
      have ht : decide ((k : Int) < (k : Int)) = false := by simp
      go_wp2_with fail
      go_ret
      exact ⟨v, hi, rfl, HN.out⟩
end Go.Proofs.Ytehnbalbpfmijaa

namespace Go.Proofs.Ytehnbalbpfmijaa
open Go.RowKit
set_option linter.unusedVariables false

/-- What the closure does, in plain words: M the matrix in work, C the sums of its columns. -/
def setA (M : List (List Int)) (n k : Nat) (x : Int) : List (List Int) := M.set (k / n) ((rw' M (k / n)).set (k % n) x)
def altStep (n k : Nat) (s : Int) (C : List Int) (rec : Int → List (List Int) → List Int → List (List Int) × List (List (List Int))) (M : List (List Int)) : Nat → List (List Int) × List (List (List Int))
  | 0 => (M, [])
  | j + 1 =>
    let r := altStep n k s C rec M j
    if inB (s + ((j : Int) - 1)) 0 1 && inB (el C (k % n) + ((j : Int) - 1)) 0 1 then
      let q := rec (s + ((j : Int) - 1)) (setA r.1 n k ((j : Int) - 1)) (C.set (k % n) (el C (k % n) + ((j : Int) - 1)))
      (q.1, r.2 ++ q.2)
    else r
def newRow (n k : Nat) : Bool := decide (0 < k) && decide (k % n = 0)
def altR (n : Nat) : Nat → Nat → Int → List (List Int) → List Int → List (List Int) × List (List (List Int))
  | 0, k, s, M, C => if newRow n k && (s != 1) then (M, []) else (M, if altB M then [M] else [])
  | d + 1, k, s, M, C => if newRow n k && (s != 1) then (M, []) else altStep n k (if newRow n k then 0 else s) C (fun s2 M2 C2 => altR n d (k + 1) s2 M2 C2) M 3
theorem altStep_len (n k : Nat) (s : Int) (C : List Int) (rec : Int → List (List Int) → List Int → List (List Int) × List (List (List Int))) (M : List (List Int)) (b : Nat) (h : ∀ s M C, (rec s M C).2.length ≤ b) : ∀ j, (altStep n k s C rec M j).2.length ≤ j * b
  | 0 => by simp [altStep]
  | j + 1 => by
    have ih := altStep_len n k s C rec M b h j
    rw [altStep, Nat.succ_mul]
    split
    · simp only [List.length_append]
      have := h (s + ((j : Int) - 1)) (setA (altStep n k s C rec M j).1 n k ((j : Int) - 1)) (C.set (k % n) (el C (k % n) + ((j : Int) - 1)))
      omega
    · omega
theorem altR_len (n : Nat) : ∀ (d k : Nat) (s : Int) (M : List (List Int)) (C : List Int), (altR n d k s M C).2.length ≤ 3 ^ d
  | 0, k, s, M, C => by
    rw [altR]
    split
    · simp
    · split <;> simp
  | d + 1, k, s, M, C => by
    rw [altR]
    split
    · simp
    · have := altStep_len n k (if newRow n k then 0 else s) C (fun s2 M2 C2 => altR n d (k + 1) s2 M2 C2) M (3 ^ d) (fun s M C => altR_len n d (k + 1) s M C) 3
      rw [Nat.pow_succ, Nat.mul_comm]; exact this
def InC01 (C : List Int) : Prop := ∀ j, 0 ≤ el C j ∧ el C j ≤ 1
theorem InC01.set {C : List Int} (h : InC01 C) (i : Nat) {z : Int} (h0 : 0 ≤ z) (h1 : z ≤ 1) : InC01 (C.set i z) := fun j => by
  by_cases e : i = j
  · subst e
    by_cases hi : i < C.length
    · simp [el, hi]; exact ⟨h0, h1⟩
    · have : C.set i z = C := List.set_eq_of_length_le (by omega)
      rw [this]; exact h i
  · have := h j
    unfold el at this ⊢
    rw [List.getD_eq_getElem?_getD] at this ⊢
    rw [List.getElem?_set_ne e]
    exact this
theorem set_back (C : List Int) (i : Nat) (z : Int) : (C.set i z).set i (el C i) = C := by
  rw [List.set_set]
  by_cases hi : i < C.length
  · rw [el_get _ _ hi]
    exact List.set_getElem_self hi
  · exact List.set_eq_of_length_le (by omega)
def APost (w0 : World) (L : ALay) (n d k : Nat) (s : Int) (M : List (List Int)) (C : List Int) (os : List (List (List Int))) (e : Ending) (w' : World) : Prop :=
  e = .returned (.tuple #[]) ∧ ASt w0 L n w' (altR n d k s M C).1 C (os ++ (altR n d k s M C).2)
/-- One call of the closure. -/
def ARest (w0 : World) (L : ALay) (n d k : Nat) : Prop := ∀ (wr : World) (M : List (List Int)) (C : List Int) (os : List (List (List Int))) (s : Int), ASt w0 L n wr M C os → C.length = n → InC01 C → 0 ≤ s → s ≤ 1 → os.length + 3 ^ d ≤ 100000000 →
  Calls Try.prog 124 #[.int .i64 k, .int .i64 s, .pointer (some ⟨L.pn, 0, none⟩), .pointer (some ⟨L.pm, 0, none⟩), .pointer (some ⟨L.po, 0, none⟩), .pointer (some ⟨L.pc, 0, none⟩), .pointer (some ⟨L.ps, 0, none⟩)] wr
    (APost w0 L n d k s M C os)
theorem row_cases (n k : Nat) (s : Int) : (k = 0) ∨ (0 < k ∧ ¬ k % n = 0) ∨ (0 < k ∧ k % n = 0 ∧ ¬ s = 1) ∨ (0 < k ∧ k % n = 0 ∧ s = 1) := by
  rcases Nat.eq_zero_or_pos k with h | h
  · exact .inl h
  · by_cases h1 : k % n = 0
    · by_cases h2 : s = 1
      · exact .inr (.inr (.inr ⟨h, h1, h2⟩))
      · exact .inr (.inr (.inl ⟨h, h1, h2⟩))
    · exact .inr (.inl ⟨h, h1⟩)

set_option maxRecDepth 100000 in
set_option maxHeartbeats 8000000 in
theorem arest_end (w0 : World) (L : ALay) (hL : L.Ok w0.heap.size) (n : Nat) (hn : 1 ≤ n ∧ n ≤ 4) (k : Nat) (hk : n * n = k) : ARest w0 L n 0 k := by
  intro wr M C os s hS hCl hC hs0 hs1 hO
  have HS := Lib.hid hS
  obtain ⟨h1, h2, h3, v, hi, h4⟩ := hS
  have cn : wr.cell? ⟨L.pn, 0, none⟩ = some (.int .i64 n) := cell_of_one h1.en
  have hmul : (n : Int) * (n : Int) = (k : Int) := by rw [← hk]; simp
  have hnn : k ≤ 16 := by rw [← hk]; exact Nat.mul_le_mul hn.2 hn.2
  have hrm : (k : Int) % (n : Int) = ((k % n : Nat) : Int) := by rw [Int.natCast_emod]
  have hrt : Int.tmod (k : Int) (n : Int) = ((k % n : Nat) : Int) := by rw [Int.tmod_eq_emod_of_nonneg (by omega)]; exact hrm
  have hn0 : ((n : Int) == 0) = false := by rw [beq_eq_false_iff_ne]; omega
  have hnp : (0 : Int) < (n : Int) := by omega
  have hnz : ¬ n = 0 := by omega
  have HKN := Lib.hid hk
  obtain ⟨hn1, hn4⟩ := hn
  clear h1 h2 h3 h4 hC hCl hk
  rcases row_cases n k s with hr | ⟨hr0, hr⟩ | ⟨hr0, hr, hs⟩ | ⟨hr0, hr, hs⟩
  · have HF : Hid (altR n 0 k s M C = (M, if altB M then [M] else [])) := by unfold Hid; rw [altR]; have : newRow n k = false := by simp [newRow, hr]
                                                                             rw [this]; rfl
    have t1 : decide (0 < k) = false := by simp only [decide_eq_false_iff_not]; omega
    have HRR := Lib.hid hr
    clear hr
    go_enter Try.func124, Try.ntmps124
    have cm : wr.cell? ⟨L.pm, 0, none⟩ = some (.slice (some ⟨L.g, 0, none⟩) n L.cap) := cell_of_one HS.out.1.em
    go_wp2_with fail
    refine (IsAlternating_any _ M wr.heap.size wr (HS.out.2.1.rdII okRowA) (Nat.le_refl _)).mono ?_
    rintro e w1 ⟨rfl, hb1⟩
    have HS1 := Lib.hid (HS.out.below hb1)
    have hlm := lt_of_block HS.out.1.em
    have cm1 : w1.cell? ⟨L.pm, 0, none⟩ = some (.slice (some ⟨L.g, 0, none⟩) n L.cap) := cell_of_one HS1.out.1.em
    clear cm hb1 hlm
    cases hal : altB M
    · rw [hal] at HF
      go_wp2_with fail
      go_end0
      refine ⟨rfl, ?_⟩
      rw [HF.out]
      simpa using HS1.out
    · rw [hal] at HF
      clear hal
      obtain ⟨h1, h2, h3, v2, hi2, h4⟩ := id HS1.out
      obtain ⟨A, cv, hv, r1, r2⟩ := h4.rel.len okRowsA
      subst hv
      unfold maxLen at r2
      have co : w1.cell? ⟨L.po, 0, none⟩ = some (.slice A os.length cv) := cell_of_one h4.cell
      have hbd : Below w1.heap.size w1 w1.drew := (Below.refl _ _).drew
      have HRD := Lib.hid ((h2.below hbd).rdII okRowA)
      have HH4 := Lib.hid (h4.below hbd)
      have HML : Hid (M.length = n) := h3.1
      have HMR : Hid (∀ i, i < n → (rw' M i).length = n) := h3.2
      have L1 := Lib.hid (lt_of_block h4.cell)
      have HHI := Lib.hid h4.rel.choose_spec.2.2
      clear h1 h2 h3 h4 hbd
      go_wp2_with fail
      go_region_law (first
        | (go_simp; go_at_call 126; refine (copyRows_any _ M w1.heap.size w1.drew HRD.out (Nat.le_refl _) (by have := HML.out; omega) (fun i hi => by have := HMR.out i (by have := HML.out; omega); omega)).mono ?_; rintro e w2 ⟨v1, hi1, rfl, ho1, hx1, hb1⟩; obtain ⟨A1, c1, hv1, q1, q2, _⟩ := ho1.rd.open_; have HM1 := Lib.hid ho1; rw [hv1] at HM1; rw [hv1]; clear ho1 hv1; unfold maxLen at q2; have co1 := (hb1.cell (p := ⟨L.po, 0, none⟩) (show L.po < w1.heap.size from L1.out)).trans co; have HH5 := Lib.hid (HH4.out.below hb1); have HH6 := Lib.hid ((HS1.out.below (Below.refl _ _).drew).below hb1); obtain ⟨ss, hA, hE, hhi⟩ := HH5.out.rel; have HA1 := Lib.hid hA; have HE1 := Lib.hid hE; have hsl := hE.1; clear hA hE; have HB1 := Lib.hid hb1; have co2 : (w2.alloc (.cells #[.slice A1 M.length c1] 76)).cell? ⟨L.po, 0, none⟩ = some (.slice A os.length cv) := ((Below.refl w2.heap.size w2).alloc (Nat.le_refl _) _).cell (p := ⟨L.po, 0, none⟩) (show L.po < w2.heap.size from Nat.lt_of_lt_of_le L1.out hb1.size) |>.trans co1; clear hb1)
        | (refine step_push okRowsA (by rfl) _ _ (by rfl) HA1.out (by rfl) (A1, M.length, c1) _ (by rfl) w2.heap.size (by rfl) (by rfl) (by omega) ?_; intro v' w3 HA2 HG2; obtain ⟨A2, c2, hv2, _⟩ := HA2.out.1.rd okRowsA; rw [show (ss ++ [(A1, M.length, c1)]).length = os.length + 1 by simp [hsl]] at hv2; rw [hv2] at HA2 HG2; rw [hv2]; clear hv2; have hk2 := (HG2.out.1.block L.po (Nat.lt_of_lt_of_le L1.out HB1.out.size) (fun e => by have h9 := HH5.out.at_ L.po e.symm; rcases h9 with h9 | h9; exact hL.ne.1.2.2.1 h9.symm; have := hL.po; have := hL.lh; have := hL.hs; have := hL.sl; omega)).trans HH5.out.cell; have ck2 := cell_of_one hk2; have fk2 := free_of_one hk2; clear hk2))
      all_goals
        go_wp2_with fail
        go_end0
        refine ⟨rfl, ?_⟩
        rw [HF.out]
        simp only [if_true]
        exact ASt.push (p := w1.heap.size) (s := (A1, M.length, c1)) hL HH6.out.1 HH6.out.2.1 HH6.out.2.2.1 HE1.out HHI.out HH4.out.hi (HM1.out.more hx1) HB1.out.size HH4.out.at_ (fun g hg => (HH4.out.rel.choose_spec.1.lt g hg).2) ⟨_, HH5.out.cell⟩ HA2 HG2
  · have HF : Hid (altR n 0 k s M C = (M, if altB M then [M] else [])) := by unfold Hid; rw [altR]; have : newRow n k = false := by simp [newRow, hr]
                                                                             rw [this]; rfl
    have t1 : decide (0 < k) = true := by simp only [decide_eq_true_eq]; omega
    have t2 : (((k % n : Nat) : Int) == 0) = false := by rw [beq_eq_false_iff_ne]; omega
    clear hr
    generalize k % n = km at *
    go_enter Try.func124, Try.ntmps124
    have cm : wr.cell? ⟨L.pm, 0, none⟩ = some (.slice (some ⟨L.g, 0, none⟩) n L.cap) := cell_of_one HS.out.1.em
    go_wp2_with fail
    refine (IsAlternating_any _ M wr.heap.size wr (HS.out.2.1.rdII okRowA) (Nat.le_refl _)).mono ?_
    rintro e w1 ⟨rfl, hb1⟩
    have HS1 := Lib.hid (HS.out.below hb1)
    have hlm := lt_of_block HS.out.1.em
    have cm1 : w1.cell? ⟨L.pm, 0, none⟩ = some (.slice (some ⟨L.g, 0, none⟩) n L.cap) := cell_of_one HS1.out.1.em
    clear cm hb1 hlm
    cases hal : altB M
    · rw [hal] at HF
      go_wp2_with fail
      go_end0
      refine ⟨rfl, ?_⟩
      rw [HF.out]
      simpa using HS1.out
    · rw [hal] at HF
      clear hal
      obtain ⟨h1, h2, h3, v2, hi2, h4⟩ := id HS1.out
      obtain ⟨A, cv, hv, r1, r2⟩ := h4.rel.len okRowsA
      subst hv
      unfold maxLen at r2
      have co : w1.cell? ⟨L.po, 0, none⟩ = some (.slice A os.length cv) := cell_of_one h4.cell
      have hbd : Below w1.heap.size w1 w1.drew := (Below.refl _ _).drew
      have HRD := Lib.hid ((h2.below hbd).rdII okRowA)
      have HH4 := Lib.hid (h4.below hbd)
      have HML : Hid (M.length = n) := h3.1
      have HMR : Hid (∀ i, i < n → (rw' M i).length = n) := h3.2
      have L1 := Lib.hid (lt_of_block h4.cell)
      have HHI := Lib.hid h4.rel.choose_spec.2.2
      clear h1 h2 h3 h4 hbd
      go_wp2_with fail
      go_region_law (first
        | (go_simp; go_at_call 126; refine (copyRows_any _ M w1.heap.size w1.drew HRD.out (Nat.le_refl _) (by have := HML.out; omega) (fun i hi => by have := HMR.out i (by have := HML.out; omega); omega)).mono ?_; rintro e w2 ⟨v1, hi1, rfl, ho1, hx1, hb1⟩; obtain ⟨A1, c1, hv1, q1, q2, _⟩ := ho1.rd.open_; have HM1 := Lib.hid ho1; rw [hv1] at HM1; rw [hv1]; clear ho1 hv1; unfold maxLen at q2; have co1 := (hb1.cell (p := ⟨L.po, 0, none⟩) (show L.po < w1.heap.size from L1.out)).trans co; have HH5 := Lib.hid (HH4.out.below hb1); have HH6 := Lib.hid ((HS1.out.below (Below.refl _ _).drew).below hb1); obtain ⟨ss, hA, hE, hhi⟩ := HH5.out.rel; have HA1 := Lib.hid hA; have HE1 := Lib.hid hE; have hsl := hE.1; clear hA hE; have HB1 := Lib.hid hb1; have co2 : (w2.alloc (.cells #[.slice A1 M.length c1] 76)).cell? ⟨L.po, 0, none⟩ = some (.slice A os.length cv) := ((Below.refl w2.heap.size w2).alloc (Nat.le_refl _) _).cell (p := ⟨L.po, 0, none⟩) (show L.po < w2.heap.size from Nat.lt_of_lt_of_le L1.out hb1.size) |>.trans co1; clear hb1)
        | (refine step_push okRowsA (by rfl) _ _ (by rfl) HA1.out (by rfl) (A1, M.length, c1) _ (by rfl) w2.heap.size (by rfl) (by rfl) (by omega) ?_; intro v' w3 HA2 HG2; obtain ⟨A2, c2, hv2, _⟩ := HA2.out.1.rd okRowsA; rw [show (ss ++ [(A1, M.length, c1)]).length = os.length + 1 by simp [hsl]] at hv2; rw [hv2] at HA2 HG2; rw [hv2]; clear hv2; have hk2 := (HG2.out.1.block L.po (Nat.lt_of_lt_of_le L1.out HB1.out.size) (fun e => by have h9 := HH5.out.at_ L.po e.symm; rcases h9 with h9 | h9; exact hL.ne.1.2.2.1 h9.symm; have := hL.po; have := hL.lh; have := hL.hs; have := hL.sl; omega)).trans HH5.out.cell; have ck2 := cell_of_one hk2; have fk2 := free_of_one hk2; clear hk2))
      all_goals
        go_wp2_with fail
        go_end0
        refine ⟨rfl, ?_⟩
        rw [HF.out]
        simp only [if_true]
        exact ASt.push (p := w1.heap.size) (s := (A1, M.length, c1)) hL HH6.out.1 HH6.out.2.1 HH6.out.2.2.1 HE1.out HHI.out HH4.out.hi (HM1.out.more hx1) HB1.out.size HH4.out.at_ (fun g hg => (HH4.out.rel.choose_spec.1.lt g hg).2) ⟨_, HH5.out.cell⟩ HA2 HG2
  · have HF : Hid (altR n 0 k s M C = (M, [])) := by unfold Hid; rw [altR]; have : (newRow n k && (s != 1)) = true := by simp [newRow, hr, hs, hr0]
                                                     rw [this]; rfl
    have t1 : decide (0 < k) = true := by simp only [decide_eq_true_eq]; omega
    have t2 : (((k % n : Nat) : Int) == 0) = true := by rw [beq_iff_eq]; omega
    have t3 : (s != 1) = true := by simp [hs]
    clear hr hs
    generalize k % n = km at *
    go_enter Try.func124, Try.ntmps124
    go_wp2_with fail
    go_end0
    refine ⟨rfl, ?_⟩
    rw [HF.out]
    simpa using HS.out
  · have HF : Hid (altR n 0 k s M C = (M, if altB M then [M] else [])) := by unfold Hid; rw [altR]; have : (newRow n k && (s != 1)) = false := by simp [hs]
                                                                             rw [this]; rfl
    have t1 : decide (0 < k) = true := by simp only [decide_eq_true_eq]; omega
    have t2 : (((k % n : Nat) : Int) == 0) = true := by rw [beq_iff_eq]; omega
    subst hs
    clear hr
    generalize k % n = km at *
    go_enter Try.func124, Try.ntmps124
    have cm : wr.cell? ⟨L.pm, 0, none⟩ = some (.slice (some ⟨L.g, 0, none⟩) n L.cap) := cell_of_one HS.out.1.em
    go_wp2_with fail
    refine (IsAlternating_any _ M wr.heap.size wr (HS.out.2.1.rdII okRowA) (Nat.le_refl _)).mono ?_
    rintro e w1 ⟨rfl, hb1⟩
    have HS1 := Lib.hid (HS.out.below hb1)
    have hlm := lt_of_block HS.out.1.em
    have cm1 : w1.cell? ⟨L.pm, 0, none⟩ = some (.slice (some ⟨L.g, 0, none⟩) n L.cap) := cell_of_one HS1.out.1.em
    clear cm hb1 hlm
    cases hal : altB M
    · rw [hal] at HF
      go_wp2_with fail
      go_end0
      refine ⟨rfl, ?_⟩
      rw [HF.out]
      simpa using HS1.out
    · rw [hal] at HF
      clear hal
      obtain ⟨h1, h2, h3, v2, hi2, h4⟩ := id HS1.out
      obtain ⟨A, cv, hv, r1, r2⟩ := h4.rel.len okRowsA
      subst hv
      unfold maxLen at r2
      have co : w1.cell? ⟨L.po, 0, none⟩ = some (.slice A os.length cv) := cell_of_one h4.cell
      have hbd : Below w1.heap.size w1 w1.drew := (Below.refl _ _).drew
      have HRD := Lib.hid ((h2.below hbd).rdII okRowA)
      have HH4 := Lib.hid (h4.below hbd)
      have HML : Hid (M.length = n) := h3.1
      have HMR : Hid (∀ i, i < n → (rw' M i).length = n) := h3.2
      have L1 := Lib.hid (lt_of_block h4.cell)
      have HHI := Lib.hid h4.rel.choose_spec.2.2
      clear h1 h2 h3 h4 hbd
      go_wp2_with fail
      go_region_law (first
        | (go_simp; go_at_call 126; refine (copyRows_any _ M w1.heap.size w1.drew HRD.out (Nat.le_refl _) (by have := HML.out; omega) (fun i hi => by have := HMR.out i (by have := HML.out; omega); omega)).mono ?_; rintro e w2 ⟨v1, hi1, rfl, ho1, hx1, hb1⟩; obtain ⟨A1, c1, hv1, q1, q2, _⟩ := ho1.rd.open_; have HM1 := Lib.hid ho1; rw [hv1] at HM1; rw [hv1]; clear ho1 hv1; unfold maxLen at q2; have co1 := (hb1.cell (p := ⟨L.po, 0, none⟩) (show L.po < w1.heap.size from L1.out)).trans co; have HH5 := Lib.hid (HH4.out.below hb1); have HH6 := Lib.hid ((HS1.out.below (Below.refl _ _).drew).below hb1); obtain ⟨ss, hA, hE, hhi⟩ := HH5.out.rel; have HA1 := Lib.hid hA; have HE1 := Lib.hid hE; have hsl := hE.1; clear hA hE; have HB1 := Lib.hid hb1; have co2 : (w2.alloc (.cells #[.slice A1 M.length c1] 76)).cell? ⟨L.po, 0, none⟩ = some (.slice A os.length cv) := ((Below.refl w2.heap.size w2).alloc (Nat.le_refl _) _).cell (p := ⟨L.po, 0, none⟩) (show L.po < w2.heap.size from Nat.lt_of_lt_of_le L1.out hb1.size) |>.trans co1; clear hb1)
        | (refine step_push okRowsA (by rfl) _ _ (by rfl) HA1.out (by rfl) (A1, M.length, c1) _ (by rfl) w2.heap.size (by rfl) (by rfl) (by omega) ?_; intro v' w3 HA2 HG2; obtain ⟨A2, c2, hv2, _⟩ := HA2.out.1.rd okRowsA; rw [show (ss ++ [(A1, M.length, c1)]).length = os.length + 1 by simp [hsl]] at hv2; rw [hv2] at HA2 HG2; rw [hv2]; clear hv2; have hk2 := (HG2.out.1.block L.po (Nat.lt_of_lt_of_le L1.out HB1.out.size) (fun e => by have h9 := HH5.out.at_ L.po e.symm; rcases h9 with h9 | h9; exact hL.ne.1.2.2.1 h9.symm; have := hL.po; have := hL.lh; have := hL.hs; have := hL.sl; omega)).trans HH5.out.cell; have ck2 := cell_of_one hk2; have fk2 := free_of_one hk2; clear hk2))
      all_goals
        go_wp2_with fail
        go_end0
        refine ⟨rfl, ?_⟩
        rw [HF.out]
        simp only [if_true]
        exact ASt.push (p := w1.heap.size) (s := (A1, M.length, c1)) hL HH6.out.1 HH6.out.2.1 HH6.out.2.2.1 HE1.out HHI.out HH4.out.hi (HM1.out.more hx1) HB1.out.size HH4.out.at_ (fun g hg => (HH4.out.rel.choose_spec.1.lt g hg).2) ⟨_, HH5.out.cell⟩ HA2 HG2
end Go.Proofs.Ytehnbalbpfmijaa
