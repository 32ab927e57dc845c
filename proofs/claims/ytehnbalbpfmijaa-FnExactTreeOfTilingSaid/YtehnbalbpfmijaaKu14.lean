/- What the claim's walk rests on: parts TotS, OutwW. -/
import Derived.Test.YtehnbalbpfmijaaKu13
import Derived.Test.YtehnbalbpfmijaaKu9
import Derived.Test.YtehnbalbpfmijaaKu11
import Derived.StillTailTactics
import Derived.Deep.DeepCutAuto
import Derived.Deep.Cut
namespace Go.Proofs.Ytehnbalbpfmijaa
open Go.RowKit
set_option linter.unusedVariables false

theorem zero_grew {wr w1 : World} {n : Nat} {v v' : Value} (h : OwnF elLink wr n (.slice (some ⟨n, 0, none⟩) 0 0) [] ∧ v.ownBlock ≠ some n) (hG : Grew wr w1 v v') : OwnF elLink w1 n (.slice (some ⟨n, 0, none⟩) 0 0) [] ∧ v'.ownBlock ≠ some n := by
  obtain ⟨g1, g, g2, g3, g4⟩ := hG
  have hn : n < wr.heap.size := (h.1.lt _ rfl).2
  refine ⟨h.1.same fun k hk => ?_, fun q => ?_⟩
  · simp only [Value.ownBlock, Option.some.injEq] at hk
    subst hk
    exact g1.block _ hn (fun q => h.2 q.symm)
  · rw [g2] at q
    obtain rfl := Option.some.inj q
    rcases g3 with g3 | g3
    · exact h.2 g3
    · omega
theorem keepT2 {w w' : World} {p : Addr} {u v : Value} (hb : p.block < w.heap.size) (h1 : w.cell? p = some u) (h2 : w.cell? ⟨p.block, p.off + 1, none⟩ = some v) (h : Below w.heap.size w w') : Below w.heap.size w w' ∧ w'.cell? p = some u ∧ w'.cell? ⟨p.block, p.off + 1, none⟩ = some v :=
  ⟨h, (h.cell hb).trans h1, (h.cell (p := ⟨p.block, p.off + 1, none⟩) hb).trans h2⟩
/-- What the walk needs to know of a link and the domino over its cell. -/
structure SLk (L : List Lk) (a b : Int) (e : Bool) (X Y : Int) (j : Nat) (r : Bool) : Prop where
  lt : j < L.length
  at_ : fstZ (ovC L X Y) L.length 0 = (j : Int)
  dm : domB (lx L j) (ly L j) (ld L j) = true
  ev : r = (evC (lx L j) (ly L j) || evC (sx (lx L j) (ld L j)) (sy (ly L j) (ld L j)))
theorem sLk_of {w h : Nat} (hg : gridB w h = true) {L : List Lk} (ht : Til (setZ (floorZ w h)) L) {l : Lk} (hl : l ∈ linksZ w h) : ∃ j, SLk L l.1 l.2.1 l.2.2 (lkC l).1 (lkC l).2 j (inT L l) := by
  obtain ⟨h1, h2, h3⟩ := lkI_cell hg hl
  obtain ⟨d, hd, ho⟩ := til_over hg ht hl
  obtain ⟨i, hi, rfl⟩ := List.getElem_of_mem hd
  have hdom : ∀ k, k < L.length → domB (lx L k) (ly L k) (ld L k) = true := fun k hk => by
    have := ht.so.2 L[k] (List.getElem_mem hk)
    rw [← dAt_get L k hk] at this
    exact this
  have hov : ∀ k, k < L.length → (ovC L (lkC l).1 (lkC l).2 k = true ↔ ovr (dAt L k) (lkI l) = true) := fun k hk => by
    obtain ⟨e1, e2⟩ := snd_s (hdom k hk)
    rw [ovr_cells (d := dAt L k) (hdom k hk) h2]
    unfold ovC dAt
    rw [e1, e2]
    simp only [Bool.or_eq_true, Bool.and_eq_true, beq_iff_eq]
    constructor
    · rintro (⟨q1, q2⟩ | ⟨q1, q2⟩)
      · exact .inl (by rw [q1, q2])
      · exact .inr (by rw [q1, q2])
    · rintro (q | q)
      · exact .inl ⟨by rw [q], by rw [q]⟩
      · exact .inr ⟨by rw [q], by rw [q]⟩
  rcases fstZ_spec (ovC L (lkC l).1 (lkC l).2) L.length 0 with ⟨_, hn⟩ | ⟨j, q1, q2, q3, q4, _⟩
  · have := hn i (Nat.zero_le _) (by omega)
    rw [(hov i hi).2 (by rw [dAt_get L i hi]; exact ho)] at this
    exact absurd this (by simp)
  · have hj : j < L.length := by omega
    refine ⟨j, hj, q1, hdom j hj, ?_⟩
    have := inT_ev hg ht hl (d := dAt L j) (by rw [dAt_get L j hj]; exact List.getElem_mem hj) ((hov j hj).1 q4)
    rw [this]; rfl

set_option maxRecDepth 100000 in
set_option maxHeartbeats 8000000 in
theorem specTot_any (p q : Int) (v : Value) (L : List Lk) (B : Nat) (w : World) (h : RdF elDomino w B v L) (hB : B ≤ w.heap.size) :
    Calls Try.prog 43 #[.int .i64 p, .int .i64 q, v] w (RetTot w (totB p q L) (totZ p q L)) := by
  have HV := Lib.hid h
  obtain ⟨A, c, rfl, g1, g2, G3⟩ := RdT.of (E := elDomino) rfl (fun _ => rfl) h
  unfold maxLen at g2
  clear h
  cases hg : gridB p q
  · have hno : totB p q L = false := tot_grid hg
    have hz : totZ p q L = [] := by unfold totZ; rw [hno]; rfl
    rw [hno, hz]
    clear hno hz
    have HA0 : Hid (Acc elLink w w.heap.size (w.alloc (.cells #[] 68)) (.slice (some ⟨w.heap.size, 0, none⟩) 0 0) []) := Acc.start w
    go_enter Try.func43, Try.ntmps43
    go_wp2_with fail
    refine (specGridOk_any _ _ _).mono ?_
    rintro e w1 ⟨rfl, rfl⟩
    rw [hg]
    go_wp2_with fail
    refine bodyPost_ret (v := .tuple #[.slice (some ⟨w.heap.size, 0, none⟩) 0 0, .bool false]) (by simp [results, Try.results43, go_sem]) rfl ⟨_, rfl, HA0.out.1, HA0.out.2.1⟩
  · have hb := (gridB_iff _ _).1 hg
    obtain ⟨gw, rfl⟩ := Int.eq_ofNat_of_zero_le (show 0 ≤ p by omega)
    obtain ⟨gh, rfl⟩ := Int.eq_ofNat_of_zero_le (show 0 ≤ q by omega)
    have HOK := Lib.hid (flR_ok hg)
    have HA0 : Hid (Acc elLink w w.heap.size (w.alloc (.cells #[] 68)) (.slice (some ⟨w.heap.size, 0, none⟩) 0 0) []) := Acc.start w
    obtain ⟨R, HR⟩ : ∃ R, Hid (floorZ gw gh = R) := ⟨_, rfl⟩
    obtain ⟨n0, hn0⟩ : ∃ n0, w.heap.size = n0 := ⟨_, rfl⟩
    cases ht : sTileB (setZ (floorZ gw gh)) L
    · have hno : totB gw gh L = false := tot_no ht
      have hz : totZ gw gh L = [] := by unfold totZ; rw [hno]; rfl
      rw [hno, hz]
      have HT := Lib.hid ht
      rw [HR.out] at HT HOK
      clear hno hz ht
      go_enter Try.func43, Try.ntmps43
      go_wp2_with fail
      refine (specGridOk_any _ _ _).mono ?_
      rintro e w1 ⟨rfl, rfl⟩
      rw [hg]
      go_wp2_with fail
      refine (specTreeFloor_any _ _ _).mono ?_
      rintro e w2 ⟨v2, rfl, ho2, hb2⟩
      rw [HR.out] at ho2
      have HO2 := Lib.hid ho2.rd
      have HA2 := Lib.hid (HA0.out.below hb2)
      clear ho2 hb2
      go_wp2_with fail
      refine (specIsTiling_yes _ _ R L _ _ HO2.out ((HV.out.below (HA2.out.2.1.mono hB)).more (Nat.le_trans hB HA2.out.2.1.size)) (Nat.le_refl _) HOK.out).mono ?_
      rintro e w3 ⟨rfl, hb3⟩
      rw [HT.out]
      have HA3 := Lib.hid (HA2.out.below hb3)
      clear hb3
      go_wp2_with fail
      refine bodyPost_ret (v := .tuple #[.slice (some ⟨w.heap.size, 0, none⟩) 0 0, .bool false]) (by simp [results, Try.results43, go_sem]) rfl ⟨_, rfl, HA3.out.1, HA3.out.2.1⟩
    · have HTIL := til_to (setZ_lt HOK.out) ht
      obtain ⟨all, HALL⟩ : ∃ x, Hid (linksZ (gw : Int) gh = x) := ⟨_, rfl⟩
      have HSL : Hid (∀ l, l ∈ all → ((0 ≤ l.1 ∧ l.1 ≤ 3) ∧ 0 ≤ l.2.1 ∧ l.2.1 ≤ 3) ∧ ∃ j, SLk L l.1 l.2.1 l.2.2 (lkC l).1 (lkC l).2 j (inT L l)) := fun l hl => by
        rw [← HALL.out] at hl
        exact ⟨(link_box hg hl).2, sLk_of hg HTIL hl⟩
      have HLEN : Hid (all.length ≤ 32) := by rw [← HALL.out]; exact linksZ_len _ _
      have HDD : Hid (∀ k, k < L.length → domB (lx L k) (ly L k) (ld L k) = true) := fun k hk => by
        have := HTIL.so.2 L[k] (List.getElem_mem hk)
        rw [← dAt_get L k hk] at this
        exact this
      have HTB : Hid (totB gw gh L = (treeB gw gh (all.filter (inT L)) && decide (tilQ gw gh (all.filter (inT L)) = L))) := by
        unfold Hid totB toT; rw [hg, HALL.out]; rfl
      have HTZ : Hid (totZ gw gh L = if (treeB gw gh (all.filter (inT L)) && decide (tilQ gw gh (all.filter (inT L)) = L)) then all.filter (inT L) else []) := by
        unfold Hid totZ; rw [HTB.out]; unfold toT; rw [HALL.out]
      have HT := Lib.hid ht
      rw [HR.out] at HT HOK
      rw [HTB.out, HTZ.out]
      clear HTB HTZ HTIL ht
      generalize inT L = pT at *
      obtain ⟨T, HTT⟩ : ∃ T, Hid (all.filter pT = T) := ⟨_, rfl⟩
      rw [HTT.out]
      have HSPT := Lib.hid (fun (V : World) (u' : Value) (hr : RdF elLink V V.heap.size u' T) => specTil_any gw gh u' T V.heap.size V hr (Nat.le_refl _))
      generalize treeB gw gh T = tb at *
      generalize tilQ gw gh T = TQ at *
      obtain ⟨db, HDB⟩ : ∃ b, Hid (decide (TQ = L) = b) := ⟨_, rfl⟩
      rw [HDB.out]
      obtain ⟨OZ, HOZ⟩ : ∃ z, Hid ((if (tb && db) = true then T else []) = z) := ⟨_, rfl⟩
      rw [HOZ.out]
      go_enter Try.func43, Try.ntmps43
      go_wp2_with fail
      refine (specGridOk_any _ _ _).mono ?_
      rintro e w1 ⟨rfl, rfl⟩
      rw [hg]
      go_wp2_with fail
      refine (specTreeFloor_any _ _ _).mono ?_
      rintro e w2 ⟨v2, rfl, ho2, hb2⟩
      rw [HR.out] at ho2
      have HO2 := Lib.hid ho2.rd
      have HA2 := Lib.hid (HA0.out.below hb2)
      clear ho2 hb2
      go_wp2_with fail
      refine (specIsTiling_yes _ _ R L _ _ HO2.out ((HV.out.below (HA2.out.2.1.mono hB)).more (Nat.le_trans hB HA2.out.2.1.size)) (Nat.le_refl _) HOK.out).mono ?_
      rintro e w3 ⟨rfl, hb3⟩
      rw [HT.out]
      have HA3 := Lib.hid (HA2.out.below hb3)
      clear hb3 HA2
      have HNN : Hid (w3.heap.size < (w3.alloc (.cells #[] 68)).heap.size ∧ w.heap.size < w3.heap.size) := ⟨by simp, (HA3.out.1.lt _ rfl).2⟩
      have HA4 : Hid (Acc elLink w w.heap.size (w3.alloc (.cells #[] 68)) (.slice (some ⟨w3.heap.size, 0, none⟩) 0 0) []) := Acc.startAt HA3.out.2.1 (Nat.le_refl _) HA3.out.2.1.size
      have HZ4 : Hid (Acc elLink w w.heap.size (w3.alloc (.cells #[] 68)) (.slice (some ⟨w.heap.size, 0, none⟩) 0 0) []) := HA3.out.below ((Below.refl _ _).alloc (Nat.le_refl _) _)
      go_wp2_with fail
      generalize w3.alloc (.cells #[] 68) = W4 at *
      generalize w3.heap.size = n4 at *
      refine (specLinksOf_any _ _ W4).mono ?_
      rintro e w5 ⟨vA, rfl, ho5, hb5⟩
      rw [HALL.out] at ho5
      have HA5 := Lib.hid (HA4.out.below hb5)
      have HZ5 := Lib.hid (HZ4.out.below hb5)
      have HLO := Lib.hid ho5.lt
      have HRD := Lib.hid (ho5.rd okLink)
      obtain ⟨A1, c1, hv1, gg1, gg2, _⟩ := ho5.rd okLink
      unfold maxLen at gg2
      subst hv1
      have HK5 : Hid (KeepT w5 A1 all (.slice (some ⟨n4, 0, none⟩) 0 0)) := KeepT.of HRD.out (lo := W4.heap.size) (fun g hg => (HLO.out g hg).1) (fun g hg => by simp only [Value.ownBlock, Option.some.injEq] at hg; subst hg; exact HNN.out.1)
      have hal := HLEN.out
      clear ho5 hb5 HA4 HRD HLO HZ4
      go_wp2_with fail
      go_loopw [9, 11] (fun o i wr => ∃ (k : Nat) (u : Value), u = o ∧ k ≤ all.length ∧ i = .int .i64 (k : Int) ∧ Hid (KeepT wr A1 all u) ∧ Hid (Acc elLink w w.heap.size wr u ((all.take k).filter pT)) ∧ Hid (OwnF elLink wr w.heap.size (.slice (some ⟨w.heap.size, 0, none⟩) 0 0) [] ∧ u.ownBlock ≠ some w.heap.size)) (fun _ i _ => all.length - (intOf i).toNat)
      case atStart => exact ⟨0, _, rfl, Nat.zero_le _, rfl, HK5, HA5, HZ5.out.1, fun e => by have := HNN.out.2; simp only [Value.ownBlock, Option.some.injEq] at e; omega⟩
      case round =>
        obtain ⟨k, u, rfl, hk, rfl, HK, HA, HZ⟩ := hrel
        by_cases hlt : k < all.length
        · have ht : decide ((k : Int) < (all.length : Int)) = true := by simp only [decide_eq_true_eq]; omega
          obtain ⟨⟨hl1, hl2⟩, j, hS⟩ := HSL.out all[k] (List.getElem_mem hlt)
          have HFT := Lib.hid (filter_take pT all k hlt)
          obtain ⟨ad, rfl, had, hne, hx, hy, hz⟩ := HK.out.cl k hlt
          have e1 : lx all k = all[k].1 := by simp [lx, hlt]
          have e2 : ly all k = all[k].2.1 := by simp [ly, hlt]
          have e3 : ld all k = all[k].2.2 := by simp [ld, hlt]
          rw [e1] at hx; rw [e2] at hy; rw [e3] at hz
          have HE1 := Lib.hid e1; have HE2 := Lib.hid e2; have HE3 := Lib.hid e3
          clear e1 e2 e3
          generalize all[k] = l at *
          obtain ⟨a, b, e⟩ := l
          simp only at hl1 hl2 hS hx hy hz
          obtain ⟨⟨a0, a3⟩, b0, b3⟩ := And.intro hl1 hl2
          have hL1 : (ad.add (k * 3)).block < wr.heap.size := by rw [addBlock]; exact had
          have hk0 : (0 : Int) ≤ (k : Int) := by omega
          have hk1 : (k : Int) < (all.length : Int) := by omega
          have v1 : IntKind.i64.wrap (2 * a) = 2 * a := IntWalk.i64_in _ (by omega)
          have v2 : IntKind.i64.wrap (2 * a + 1) = 2 * a + 1 := IntWalk.i64_in _ (by omega)
          have v3 : IntKind.i64.wrap (2 * b) = 2 * b := IntWalk.i64_in _ (by omega)
          have v4 : IntKind.i64.wrap (2 * b + 1) = 2 * b + 1 := IntWalk.i64_in _ (by omega)
          go_upto_region 9 with (fail)
          go_cut [12] (fun s wx => ∃ n12, s = .pointer (some ⟨n12, 0, none⟩) ∧ wr.heap.size ≤ n12 ∧ Hid (Below wr.heap.size wr wx) ∧ Hid (wx.heap[n12]? = some (.cells #[.int .i64 (2 * a + 1), .int .i64 (2 * b)] 44)))
          case first =>
            go_wp2_with fail
            refine wp_region_held_drew (S := fun w' => Below wr.heap.size wr w' ∧ w'.cell? (ad.add (k * 3)) = some (.int .i64 a) ∧ w'.cell? ⟨(ad.add (k * 3)).block, (ad.add (k * 3)).off + 1, none⟩ = some (.int .i64 b)) (by kernel_rfl) (by exact ⟨(Below.refl _ _).drew, hx, hy⟩) (fun hHeld => ?_)
            refine wpAnyH_take (i := 0) (oi := ⟨_, _, _, _, _, _⟩) (v := ?vap1059q1n0) rfl (by kernel_rfl) (by kernel_rfl) (by kernel_rfl) (fun _ _ _ h => h) (Or.inl ⟨by rfl, ?hap1059q1n0⟩) (by assumption) ?_
            case hap1059q1n0 => (intro w hSw; (try dsimp only at hSw); go_simp; try with_reducible rfl)
            try simp only [Act.put, List.setIfInBounds_toArray, List.set_cons_zero, List.set_cons_succ]
            refine wpAnyH_take (i := 1) (oi := ⟨_, _, _, _, _, _⟩) (v := ?vap1059q2n1) rfl (by kernel_rfl) (by kernel_rfl) (by kernel_rfl) (fun _ _ _ h => h) (Or.inl ⟨by rfl, ?hap1059q2n1⟩) (by assumption) ?_
            case hap1059q2n1 => (intro w hSw; (try dsimp only at hSw); go_simp; try with_reducible rfl)
            try simp only [Act.put, List.setIfInBounds_toArray, List.set_cons_zero, List.set_cons_succ]
            refine wpAnyH_take (i := 2) (oi := ⟨_, _, _, _, _, _⟩) (v := ?vap1059q3n2) rfl (by kernel_rfl) (by kernel_rfl) (by kernel_rfl) (fun _ _ _ h => h) (Or.inl ⟨by rfl, ?hap1059q3n2⟩) (by assumption) ?_
            case hap1059q3n2 => (intro w hSw; (try dsimp only at hSw); go_simp; try with_reducible rfl)
            try simp only [Act.put, List.setIfInBounds_toArray, List.set_cons_zero, List.set_cons_succ]
            refine wpAnyH_take (i := 3) (oi := ⟨_, _, _, _, _, _⟩) (v := ?vap1059q4n3) rfl (by kernel_rfl) (by kernel_rfl) (by kernel_rfl) (fun _ _ _ h => h) (Or.inl ⟨by rfl, ?hap1059q4n3⟩) (by assumption) ?_
            case hap1059q4n3 => (intro w hSw; (try dsimp only at hSw); go_simp; try with_reducible rfl)
            try simp only [Act.put, List.setIfInBounds_toArray, List.set_cons_zero, List.set_cons_succ]
            refine wpAnyH_take (i := 4) (oi := ⟨_, _, _, _, _, _⟩) (v := ?vap1059q5n4) rfl (by kernel_rfl) (by kernel_rfl) (by kernel_rfl) (fun _ _ _ h => h) (Or.inl ⟨by rfl, ?hap1059q5n4⟩) (by assumption) ?_
            case hap1059q5n4 => (intro w hSw; (try dsimp only at hSw); go_simp; try with_reducible rfl)
            try simp only [Act.put, List.setIfInBounds_toArray, List.set_cons_zero, List.set_cons_succ]
            refine wpAnyH_take (i := 5) (oi := ⟨_, _, _, _, _, _⟩) (v := ?vap1059q6n5) rfl (by kernel_rfl) (by kernel_rfl) (by kernel_rfl) (fun _ _ _ h => h) (Or.inl ⟨by rfl, ?hap1059q6n5⟩) (by assumption) ?_
            case hap1059q6n5 => (intro w hSw; (try dsimp only at hSw); go_simp; try with_reducible rfl)
            try simp only [Act.put, List.setIfInBounds_toArray, List.set_cons_zero, List.set_cons_succ]
            refine wpAnyH_take (i := 6) (oi := ⟨_, _, _, _, _, _⟩) (v := ?vap1059q7n6) rfl (by kernel_rfl) (by kernel_rfl) (by kernel_rfl) (fun _ _ _ h => h) (Or.inl ⟨by rfl, ?hap1059q7n6⟩) (by assumption) ?_
            case hap1059q7n6 => (intro w hSw; (try dsimp only at hSw); go_simp; try with_reducible rfl)
            try simp only [Act.put, List.setIfInBounds_toArray, List.set_cons_zero, List.set_cons_succ]
            refine wpAnyH_take (i := 7) (oi := ⟨_, _, _, _, _, _⟩) (v := ?vap1059q8n7) rfl (by kernel_rfl) (by kernel_rfl) (by kernel_rfl) (fun _ _ _ h => h) (Or.inl ⟨by rfl, ?hap1059q8n7⟩) (by assumption) ?_
            case hap1059q8n7 => (intro w hSw; (try dsimp only at hSw); go_simp; try with_reducible rfl)
            try simp only [Act.put, List.setIfInBounds_toArray, List.set_cons_zero, List.set_cons_succ]
            refine wpAnyH_take (i := 8) (oi := ⟨_, _, _, _, _, _⟩) (v := ?vap1059q9n8) rfl (by kernel_rfl) (by kernel_rfl) (by kernel_rfl) (fun _ _ _ h => h) (Or.inl ⟨by rfl, ?hap1059q9n8⟩) (by assumption) ?_
            case hap1059q9n8 => (intro w hSw; (try dsimp only at hSw); go_simp; try with_reducible rfl)
            try simp only [Act.put, List.setIfInBounds_toArray, List.set_cons_zero, List.set_cons_succ]
            refine wpAnyH_take (i := 9) (oi := ⟨_, _, _, _, _, _⟩) (v := ?vap1059q10n9) rfl (by kernel_rfl) (by kernel_rfl) (by kernel_rfl) (fun _ _ _ h => h) (Or.inl ⟨by rfl, ?hap1059q10n9⟩) (by assumption) ?_
            case hap1059q10n9 => (intro w hSw; (try dsimp only at hSw); go_simp; try with_reducible rfl)
            try simp only [Act.put, List.setIfInBounds_toArray, List.set_cons_zero, List.set_cons_succ]
            refine wpAnyH_take (i := 10) (oi := ⟨_, _, _, _, _, _⟩) (v := ?vap1059q11n10) rfl (by kernel_rfl) (by kernel_rfl) (by kernel_rfl) (fun _ _ _ h => h) (Or.inl ⟨by rfl, ?hap1059q11n10⟩) (by assumption) ?_
            case hap1059q11n10 => (intro w hSw; (try dsimp only at hSw); go_simp; try with_reducible rfl)
            try simp only [Act.put, List.setIfInBounds_toArray, List.set_cons_zero, List.set_cons_succ]
            refine wpAnyH_take (i := 11) (oi := ⟨_, _, _, _, _, _⟩) (v := ?vap1059q12n11) rfl (by kernel_rfl) (by kernel_rfl) (by kernel_rfl) (fun _ _ _ h => h) (Or.inl ⟨by rfl, ?hap1059q12n11⟩) (by assumption) ?_
            case hap1059q12n11 => (intro w hSw; (try dsimp only at hSw); go_simp; try with_reducible rfl)
            try simp only [Act.put, List.setIfInBounds_toArray, List.set_cons_zero, List.set_cons_succ]
            refine wpAnyH_take (i := 12) (oi := ⟨_, _, _, _, _, _⟩) (v := ?vap1059q13n12) rfl (by kernel_rfl) (by kernel_rfl) (by kernel_rfl) (fun _ _ _ h => h) (Or.inl ⟨by rfl, ?hap1059q13n12⟩) (by assumption) ?_
            case hap1059q13n12 => (intro w hSw; (try dsimp only at hSw); go_simp; try with_reducible rfl)
            try simp only [Act.put, List.setIfInBounds_toArray, List.set_cons_zero, List.set_cons_succ]
            refine wpAnyH_take (i := 13) (oi := ⟨_, _, _, _, _, _⟩) (v := ?vap1059q14n13) rfl (by kernel_rfl) (by kernel_rfl) (by kernel_rfl) (fun _ _ _ h => h) (Or.inl ⟨by rfl, ?hap1059q14n13⟩) (by assumption) ?_
            case hap1059q14n13 => (intro w hSw; (try dsimp only at hSw); go_simp; try with_reducible rfl)
            try simp only [Act.put, List.setIfInBounds_toArray, List.set_cons_zero, List.set_cons_succ]
            refine wpAnyH_ready (rs := [14]) (by kernel_rfl) (by simp) ?_
            refine AllReadyH.cons (o := ⟨_, _, _, _, _, _⟩) rfl (fun K hK => ?_) AllReadyH.nil
            go_simp
            refine hK.out _ _ (by refine keepT2 hL1 hx hy ?_; first | exact hHeld.1.alloc hHeld.1.size _ | exact (hHeld.1.alloc hHeld.1.size _).drew | exact ((Below.refl _ _).alloc (Nat.le_refl _) _).drew) (fun hHeld => ?_)
            clear hK K
            try simp only [Act.put, List.setIfInBounds_toArray, List.set_cons_zero, List.set_cons_succ]
            refine wpAnyH_ready (rs := [15]) (by kernel_rfl) (by simp) ?_
            refine AllReadyH.cons (o := ⟨_, _, _, _, _, _⟩) rfl (fun K hK => ?_) AllReadyH.nil
            go_simp
            refine hK.out _ _ (by refine keepT2 hL1 hx hy ?_; first | exact hHeld.1.alloc hHeld.1.size _ | exact (hHeld.1.alloc hHeld.1.size _).drew | exact ((Below.refl _ _).alloc (Nat.le_refl _) _).drew) (fun hHeld => ?_)
            clear hK K
            try simp only [Act.put, List.setIfInBounds_toArray, List.set_cons_zero, List.set_cons_succ]
            refine wpAnyH_done (by kernel_rfl) ?_ _
            go_wp2_with fail
            go_meet
            exact ⟨_, rfl, Nat.le_refl _, ((Below.refl _ _).alloc (Nat.le_refl _) _).drew, heap_alloc_new _ _⟩
          case rest =>
            obtain ⟨n12, rfl, hn12, HB6, HC6⟩ := hcut
            have HK6 := Lib.hid (HK.out.below HB6.out)
            have HA6 := Lib.hid (HA.out.below HB6.out)
            have HZ6 : Hid (OwnF elLink wc w.heap.size (.slice (some ⟨w.heap.size, 0, none⟩) 0 0) [] ∧ u.ownBlock ≠ some w.heap.size) := ⟨HZ.out.1.below HB6.out, HZ.out.2⟩
            have HN6 : Hid (∀ g, u.ownBlock = some g → g < n12) := fun g hg => by have := (HA.out.1.lt g hg).2; omega
            have HW6 : Hid (w.heap.size < n12 ∧ ad.block < n12) := ⟨by have : w.heap.size < wr.heap.size := (HZ.out.1.lt _ rfl).2; omega, by omega⟩
            have hx6 := (HB6.out.cell hL1).trans hx
            have hy6 := (HB6.out.cell (p := ⟨(ad.add (k * 3)).block, (ad.add (k * 3)).off + 1, none⟩) hL1).trans hy
            have hz6 := (HB6.out.cell (p := ⟨(ad.add (k * 3)).block, (ad.add (k * 3)).off + 2, none⟩) hL1).trans hz
            obtain ⟨X, Y, HXY⟩ : ∃ X Y, Hid (lkC (a, b, e) = (X, Y)) := ⟨_, _, rfl⟩
            rw [HXY.out] at hS
            simp only at hS
            have HSH := Lib.hid hS
            have HL1 := Lib.hid hL1
            clear hS hx hy hz HK HA HZ HB6 hL1 hn12
            generalize pT (a, b, e) = r at *
            cases e
            · have hXY : 2 * a + 1 = X ∧ 2 * b = Y := by have := HXY.out; simp [lkC] at this; exact this
              rw [hXY.1, hXY.2] at HC6
              clear hx6 hy6 v1 v2 v3 v4 hXY
              go_upto_region 12 with (fail)
              generalize wc = V7 at *
              have HC7 := HC6
              have HK7 := HK6; have HA7 := HA6; have HZ7 := HZ6
              have hc0 : V7.cell? ⟨n12, 0, none⟩ = some (.int .i64 X) := by rw [blk_cell HC7.out]; rfl
              have hc1 : V7.cell? ⟨n12, 1, none⟩ = some (.int .i64 Y) := by rw [blk_cell HC7.out]; rfl
              go_wp2_with fail
              refine (DominoAt_yes _ L X Y B _ (HV.out.below (HA7.out.2.1.mono hB)) (Nat.le_trans hB HA7.out.2.1.size) HDD.out).mono ?_
              rintro e8 w8 ⟨rfl, hb8⟩
              rw [HSH.out.at_]
              have hj := HSH.out.lt
              obtain ⟨ad2, had0, had2, hx, hy, hz⟩ := G3.out j hj
              subst had0
              have HB8 := Lib.hid (HA7.out.2.1.trans (hb8.mono HA7.out.2.1.size))
              have hl2 : (ad2.add (j * 3)).block < w.heap.size := by rw [addBlock]; omega
              have hx8 := (HB8.out.cell hl2).trans hx
              have hy8 := (HB8.out.cell (p := ⟨(ad2.add (j * 3)).block, (ad2.add (j * 3)).off + 1, none⟩) hl2).trans hy
              have hz8 := (HB8.out.cell (p := ⟨(ad2.add (j * 3)).block, (ad2.add (j * 3)).off + 2, none⟩) hl2).trans hz
              have HK8 := Lib.hid (HK7.out.below hb8)
              have HA8 := Lib.hid (HA7.out.below hb8)
              have HZ8 : Hid (OwnF elLink w8 w.heap.size (.slice (some ⟨w.heap.size, 0, none⟩) 0 0) [] ∧ u.ownBlock ≠ some w.heap.size) := ⟨HZ7.out.1.below hb8, HZ7.out.2⟩
              have hj0 : (0 : Int) ≤ (j : Int) := by omega
              have hj1 : (j : Int) < (L.length : Int) := by omega
              have HDM := Lib.hid HSH.out.dm
              have HEV := Lib.hid HSH.out.ev
              clear hx hy hz hc0 hc1 hb8 HK7 HA7 HZ7 HC7 hl2 HB8 HSH
              generalize lx L j = dx at *
              generalize ly L j = dy at *
              generalize ld L j = dd at *
              obtain ⟨es1, es2⟩ := snd_s HDM.out
              have hdb := (domB_iff _ _ _).1 HDM.out
              have hsb : (0 ≤ sx dx dd ∧ sx dx dd ≤ 7) ∧ 0 ≤ sy dy dd ∧ sy dy dd ≤ 7 := by unfold sx sy; cases dd <;> simp at hdb ⊢ <;> omega
              have HCU := Lib.hid (fun V => CellsUnder_yes dx dy dd V HDM.out)
              rw [es1, es2] at HCU
              have hd0 : 0 ≤ dx ∧ 0 ≤ dy := hdb.1
              clear hdb es1 es2
              generalize sx dx dd = qx at *
              generalize sy dy dd = qy at *
              go_upto_region 13 with (fail)
              obtain ⟨V9, hV9, k9, b9⟩ := one_alloc w8 (triO dx dy dd 46)
              rw [← hV9]
              have HK9 := Lib.hid (HK8.out.below b9)
              have HA9 := Lib.hid (HA8.out.below b9)
              have HZ9 : Hid (OwnF elLink V9 w.heap.size (.slice (some ⟨w.heap.size, 0, none⟩) 0 0) [] ∧ u.ownBlock ≠ some w.heap.size) := ⟨HZ8.out.1.below b9, HZ8.out.2⟩
              obtain ⟨t0, t1, t2⟩ := tri_cells k9
              clear hV9 k9 b9 hx8 hy8 hz8
              go_wp2_with fail
              refine (HCU.out _).mono ?_
              rintro e10 w10 ⟨rfl, hb10⟩
              have HK10 := Lib.hid (HK9.out.below hb10)
              have HA10 := Lib.hid (HA9.out.below hb10)
              have HZ10 : Hid (OwnF elLink w10 w.heap.size (.slice (some ⟨w.heap.size, 0, none⟩) 0 0) [] ∧ u.ownBlock ≠ some w.heap.size) := ⟨HZ9.out.1.below hb10, HZ9.out.2⟩
              clear hb10 t0 t1 t2 HK8 HA8 HZ8 HK9 HA9 HZ9 HCU
              go_upto_region 14 with (fail)
              obtain ⟨V11, hV11, k11, j11, b11⟩ := two_alloc w10 (.cells #[.int .i64 dx, .int .i64 dy] 44) (.cells #[.int .i64 qx, .int .i64 qy] 44)
              rw [← hV11]
              have HK11 := Lib.hid (HK10.out.below b11)
              have HA11 := Lib.hid (HA10.out.below b11)
              have HZ11 : Hid (OwnF elLink V11 w.heap.size (.slice (some ⟨w.heap.size, 0, none⟩) 0 0) [] ∧ u.ownBlock ≠ some w.heap.size) := ⟨HZ10.out.1.below b11, HZ10.out.2⟩
              have d0 : V11.cell? ⟨w10.heap.size, 0, none⟩ = some (.int .i64 dx) := by rw [blk_cell k11]; rfl
              have d1 : V11.cell? ⟨w10.heap.size, 1, none⟩ = some (.int .i64 dy) := by rw [blk_cell k11]; rfl
              have d2 : V11.cell? ⟨w10.heap.size + 1, 0, none⟩ = some (.int .i64 qx) := by rw [blk_cell j11]; rfl
              have d3 : V11.cell? ⟨w10.heap.size + 1, 1, none⟩ = some (.int .i64 qy) := by rw [blk_cell j11]; rfl
              clear hV11 k11 j11 b11 HK10 HA10 HZ10
              go_cut [107] (fun s wx => s = .bool r ∧ wx = V11)
              case first =>
                have m1 : Int.tmod dx 2 = dx % 2 := Int.tmod_eq_emod_of_nonneg (by omega)
                have m2 : Int.tmod dy 2 = dy % 2 := Int.tmod_eq_emod_of_nonneg (by omega)
                have m3 : Int.tmod qx 2 = qx % 2 := Int.tmod_eq_emod_of_nonneg (by omega)
                have m4 : Int.tmod qy 2 = qy % 2 := Int.tmod_eq_emod_of_nonneg (by omega)
                have hev := HEV.out
                unfold evC at hev
                cases h1 : dx % 2 == 0 <;> cases h2 : dy % 2 == 0 <;> cases h3 : qx % 2 == 0 <;> cases h4 : qy % 2 == 0
                all_goals
                  rw [h1, h2, h3, h4] at hev
                  subst hev
                  go_wp2_with fail
                  go_meet
                  exact ⟨rfl, rfl⟩
              case rest =>
                obtain ⟨rfl, rfl⟩ := hcut
                clear d0 d1 d2 d3
                cases r
                · have HF2 : Hid ((all.take (k + 1)).filter pT = (all.take k).filter pT) := by unfold Hid; rw [HFT.out]; simp
                  go_wp2_with fail
                  go_roundw
                  case rel => exact ⟨k + 1, _, rfl, by omega, by go_num, HK11, by rw [HF2.out]; exact HA11, HZ11⟩
                  case measure => simp [intOf]; omega
                · have HF2 : Hid ((all.take (k + 1)).filter pT = (all.take k).filter pT ++ [(a, b, false)]) := by unfold Hid; rw [HFT.out]; simp
                  have hl9 : ((all.take k).filter pT).length + 1 ≤ 1073741824 := by have := List.length_filter_le pT (all.take k); rw [List.length_take] at this; omega
                  obtain ⟨ad3, ea, p1, p2, x11, y11, z11⟩ := HK11.out.cl k hlt
                  obtain rfl := Option.some.inj ea
                  rw [HE1.out] at x11; rw [HE2.out] at y11; rw [HE3.out] at z11
                  clear ea p1 p2
                  go_wp2_with (at_builtin; refine wpList_push okLink rfl _ _ rfl HA11.out rfl (a, b, false) _ rfl _ rfl rfl hl9 ?_; intro v12 w12 HA12 HG12)
                  have HK12 := Lib.hid (HK11.out.grew HG12.out)
                  have HZ12 := Lib.hid (zero_grew HZ11.out HG12.out)
                  go_roundw
                  case rel => exact ⟨k + 1, _, rfl, by omega, by go_num, HK12, by rw [HF2.out]; exact HA12, HZ12⟩
                  case measure => simp [intOf]; omega
            · have hXY : Hid (2 * a = X ∧ 2 * b + 1 = Y) := by have := HXY.out; simp [lkC] at this; exact this
              have c4 : wc.frozen? ⟨n12, 0, none⟩ = false := blk_free HC6.out
              have c5 : wc.frozen? ⟨n12, 1, none⟩ = false := blk_free HC6.out
              have c6 : wc.cell? ⟨n12, 0, none⟩ = some (.int .i64 (2 * a + 1)) := by rw [blk_cell HC6.out]; rfl
              have c7 : wc.cell? ⟨n12, 1, none⟩ = some (.int .i64 (2 * b)) := by rw [blk_cell HC6.out]; rfl
              go_upto_region 11 with (fail)
              refine wp_region_held_drew (S := fun w' => wc.heap.size ≤ w'.heap.size ∧ w'.cell? (ad.add (k * 3)) = some (.int .i64 a) ∧ w'.cell? ⟨(ad.add (k * 3)).block, (ad.add (k * 3)).off + 1, none⟩ = some (.int .i64 b)) (by kernel_rfl) (by exact ⟨Nat.le_refl _, hx6, hy6⟩) (fun hHeld => ?_)
              refine wpAnyH_take (i := 0) (oi := ⟨_, _, _, _, _, _⟩) (v := ?vap1060q1n0) rfl (by kernel_rfl) (by kernel_rfl) (by kernel_rfl) (fun _ _ _ h => h) (Or.inl ⟨by rfl, ?hap1060q1n0⟩) (by assumption) ?_
              case hap1060q1n0 => (intro w hSw; (try dsimp only at hSw); go_simp; try with_reducible rfl)
              try simp only [Act.put, List.setIfInBounds_toArray, List.set_cons_zero, List.set_cons_succ]
              refine wpAnyH_take (i := 1) (oi := ⟨_, _, _, _, _, _⟩) (v := ?vap1060q2n1) rfl (by kernel_rfl) (by kernel_rfl) (by kernel_rfl) (fun _ _ _ h => h) (Or.inl ⟨by rfl, ?hap1060q2n1⟩) (by assumption) ?_
              case hap1060q2n1 => (intro w hSw; (try dsimp only at hSw); go_simp; try with_reducible rfl)
              try simp only [Act.put, List.setIfInBounds_toArray, List.set_cons_zero, List.set_cons_succ]
              refine wpAnyH_take (i := 2) (oi := ⟨_, _, _, _, _, _⟩) (v := ?vap1060q3n2) rfl (by kernel_rfl) (by kernel_rfl) (by kernel_rfl) (fun _ _ _ h => h) (Or.inl ⟨by rfl, ?hap1060q3n2⟩) (by assumption) ?_
              case hap1060q3n2 => (intro w hSw; (try dsimp only at hSw); go_simp; try with_reducible rfl)
              try simp only [Act.put, List.setIfInBounds_toArray, List.set_cons_zero, List.set_cons_succ]
              refine wpAnyH_take (i := 3) (oi := ⟨_, _, _, _, _, _⟩) (v := ?vap1060q4n3) rfl (by kernel_rfl) (by kernel_rfl) (by kernel_rfl) (fun _ _ _ h => h) (Or.inl ⟨by rfl, ?hap1060q4n3⟩) (by assumption) ?_
              case hap1060q4n3 => (intro w hSw; (try dsimp only at hSw); go_simp; try with_reducible rfl)
              try simp only [Act.put, List.setIfInBounds_toArray, List.set_cons_zero, List.set_cons_succ]
              refine wpAnyH_take (i := 4) (oi := ⟨_, _, _, _, _, _⟩) (v := ?vap1060q5n4) rfl (by kernel_rfl) (by kernel_rfl) (by kernel_rfl) (fun _ _ _ h => h) (Or.inl ⟨by rfl, ?hap1060q5n4⟩) (by assumption) ?_
              case hap1060q5n4 => (intro w hSw; (try dsimp only at hSw); go_simp; try with_reducible rfl)
              try simp only [Act.put, List.setIfInBounds_toArray, List.set_cons_zero, List.set_cons_succ]
              refine wpAnyH_take (i := 5) (oi := ⟨_, _, _, _, _, _⟩) (v := ?vap1060q6n5) rfl (by kernel_rfl) (by kernel_rfl) (by kernel_rfl) (fun _ _ _ h => h) (Or.inl ⟨by rfl, ?hap1060q6n5⟩) (by assumption) ?_
              case hap1060q6n5 => (intro w hSw; (try dsimp only at hSw); go_simp; try with_reducible rfl)
              try simp only [Act.put, List.setIfInBounds_toArray, List.set_cons_zero, List.set_cons_succ]
              refine wpAnyH_take (i := 6) (oi := ⟨_, _, _, _, _, _⟩) (v := ?vap1060q7n6) rfl (by kernel_rfl) (by kernel_rfl) (by kernel_rfl) (fun _ _ _ h => h) (Or.inl ⟨by rfl, ?hap1060q7n6⟩) (by assumption) ?_
              case hap1060q7n6 => (intro w hSw; (try dsimp only at hSw); go_simp; try with_reducible rfl)
              try simp only [Act.put, List.setIfInBounds_toArray, List.set_cons_zero, List.set_cons_succ]
              refine wpAnyH_take (i := 7) (oi := ⟨_, _, _, _, _, _⟩) (v := ?vap1060q8n7) rfl (by kernel_rfl) (by kernel_rfl) (by kernel_rfl) (fun _ _ _ h => h) (Or.inl ⟨by rfl, ?hap1060q8n7⟩) (by assumption) ?_
              case hap1060q8n7 => (intro w hSw; (try dsimp only at hSw); go_simp; try with_reducible rfl)
              try simp only [Act.put, List.setIfInBounds_toArray, List.set_cons_zero, List.set_cons_succ]
              refine wpAnyH_take (i := 8) (oi := ⟨_, _, _, _, _, _⟩) (v := ?vap1060q9n8) rfl (by kernel_rfl) (by kernel_rfl) (by kernel_rfl) (fun _ _ _ h => h) (Or.inl ⟨by rfl, ?hap1060q9n8⟩) (by assumption) ?_
              case hap1060q9n8 => (intro w hSw; (try dsimp only at hSw); go_simp; try with_reducible rfl)
              try simp only [Act.put, List.setIfInBounds_toArray, List.set_cons_zero, List.set_cons_succ]
              refine wpAnyH_take (i := 9) (oi := ⟨_, _, _, _, _, _⟩) (v := ?vap1060q10n9) rfl (by kernel_rfl) (by kernel_rfl) (by kernel_rfl) (fun _ _ _ h => h) (Or.inl ⟨by rfl, ?hap1060q10n9⟩) (by assumption) ?_
              case hap1060q10n9 => (intro w hSw; (try dsimp only at hSw); go_simp; try with_reducible rfl)
              try simp only [Act.put, List.setIfInBounds_toArray, List.set_cons_zero, List.set_cons_succ]
              refine wpAnyH_take (i := 10) (oi := ⟨_, _, _, _, _, _⟩) (v := ?vap1060q11n10) rfl (by kernel_rfl) (by kernel_rfl) (by kernel_rfl) (fun _ _ _ h => h) (Or.inl ⟨by rfl, ?hap1060q11n10⟩) (by assumption) ?_
              case hap1060q11n10 => (intro w hSw; (try dsimp only at hSw); go_simp; try with_reducible rfl)
              try simp only [Act.put, List.setIfInBounds_toArray, List.set_cons_zero, List.set_cons_succ]
              refine wpAnyH_take (i := 11) (oi := ⟨_, _, _, _, _, _⟩) (v := ?vap1060q12n11) rfl (by kernel_rfl) (by kernel_rfl) (by kernel_rfl) (fun _ _ _ h => h) (Or.inl ⟨by rfl, ?hap1060q12n11⟩) (by assumption) ?_
              case hap1060q12n11 => (intro w hSw; (try dsimp only at hSw); go_simp; try with_reducible rfl)
              try simp only [Act.put, List.setIfInBounds_toArray, List.set_cons_zero, List.set_cons_succ]
              refine wpAnyH_take (i := 12) (oi := ⟨_, _, _, _, _, _⟩) (v := ?vap1060q13n12) rfl (by kernel_rfl) (by kernel_rfl) (by kernel_rfl) (fun _ _ _ h => h) (Or.inl ⟨by rfl, ?hap1060q13n12⟩) (by assumption) ?_
              case hap1060q13n12 => (intro w hSw; (try dsimp only at hSw); go_simp; try with_reducible rfl)
              try simp only [Act.put, List.setIfInBounds_toArray, List.set_cons_zero, List.set_cons_succ]
              refine wpAnyH_take (i := 13) (oi := ⟨_, _, _, _, _, _⟩) (v := ?vap1060q14n13) rfl (by kernel_rfl) (by kernel_rfl) (by kernel_rfl) (fun _ _ _ h => h) (Or.inl ⟨by rfl, ?hap1060q14n13⟩) (by assumption) ?_
              case hap1060q14n13 => (intro w hSw; (try dsimp only at hSw); go_simp; try with_reducible rfl)
              try simp only [Act.put, List.setIfInBounds_toArray, List.set_cons_zero, List.set_cons_succ]
              refine wpAnyH_ready (rs := [14]) (by kernel_rfl) (by simp) ?_
              refine AllReadyH.cons (o := ⟨_, _, _, _, _, _⟩) rfl (fun K hK => ?_) AllReadyH.nil
              go_simp
              refine hK.out _ _ (by exact ⟨by simp, (set2_keep (by rw [addBlock]; have := HW6.out.2; omega)).trans hx6, (set2_keep (by show (ad.add (k * 3)).block ≠ _; rw [addBlock]; have := HW6.out.2; omega)).trans hy6⟩) (fun hHeld => ?_)
              clear hK K
              try simp only [Act.put, List.setIfInBounds_toArray, List.set_cons_zero, List.set_cons_succ]
              refine wpAnyH_done (by kernel_rfl) ?_ _
              go_upto_region 12 with (fail)
              have HS2 := Lib.hid (set2_of (x := 2 * a) (y := 2 * b + 1) HC6.out)
              generalize ((wc.setCell ⟨n12, 0, none⟩ (.int .i64 (2 * a))).setCell ⟨n12, 1, none⟩ (.int .i64 (2 * b + 1))).drew = V7 at *
              have HC7 := Lib.hid HS2.out.new
              rw [hXY.out.1, hXY.out.2] at HC7
              have HK7 := Lib.hid (HS2.out.keepT HK6.out (fun p e => by obtain rfl := Option.some.inj e; have := HW6.out.2; omega))
              have HA7 := Lib.hid (HS2.out.acc HA6.out (fun g hg => by have := HN6.out g hg; omega) (by have := HW6.out.1; omega))
              have HZ7 : Hid (OwnF elLink V7 w.heap.size (.slice (some ⟨w.heap.size, 0, none⟩) 0 0) [] ∧ u.ownBlock ≠ some w.heap.size) := ⟨HZ6.out.1.same fun g hg => HS2.out.old g (by simp only [Value.ownBlock, Option.some.injEq] at hg; have := HW6.out.1; omega), HZ6.out.2⟩
              clear HS2 c4 c5 c6 c7 hx6 hy6 hz6 v1 v2 v3 v4 hXY HC6 HK6 HA6 HZ6
              have hc0 : V7.cell? ⟨n12, 0, none⟩ = some (.int .i64 X) := by rw [blk_cell HC7.out]; rfl
              have hc1 : V7.cell? ⟨n12, 1, none⟩ = some (.int .i64 Y) := by rw [blk_cell HC7.out]; rfl
              go_wp2_with fail
              refine (DominoAt_yes _ L X Y B _ (HV.out.below (HA7.out.2.1.mono hB)) (Nat.le_trans hB HA7.out.2.1.size) HDD.out).mono ?_
              rintro e8 w8 ⟨rfl, hb8⟩
              rw [HSH.out.at_]
              have hj := HSH.out.lt
              obtain ⟨ad2, had0, had2, hx, hy, hz⟩ := G3.out j hj
              subst had0
              have HB8 := Lib.hid (HA7.out.2.1.trans (hb8.mono HA7.out.2.1.size))
              have hl2 : (ad2.add (j * 3)).block < w.heap.size := by rw [addBlock]; omega
              have hx8 := (HB8.out.cell hl2).trans hx
              have hy8 := (HB8.out.cell (p := ⟨(ad2.add (j * 3)).block, (ad2.add (j * 3)).off + 1, none⟩) hl2).trans hy
              have hz8 := (HB8.out.cell (p := ⟨(ad2.add (j * 3)).block, (ad2.add (j * 3)).off + 2, none⟩) hl2).trans hz
              have HK8 := Lib.hid (HK7.out.below hb8)
              have HA8 := Lib.hid (HA7.out.below hb8)
              have HZ8 : Hid (OwnF elLink w8 w.heap.size (.slice (some ⟨w.heap.size, 0, none⟩) 0 0) [] ∧ u.ownBlock ≠ some w.heap.size) := ⟨HZ7.out.1.below hb8, HZ7.out.2⟩
              have hj0 : (0 : Int) ≤ (j : Int) := by omega
              have hj1 : (j : Int) < (L.length : Int) := by omega
              have HDM := Lib.hid HSH.out.dm
              have HEV := Lib.hid HSH.out.ev
              clear hx hy hz hc0 hc1 hb8 HK7 HA7 HZ7 HC7 hl2 HB8 HSH
              generalize lx L j = dx at *
              generalize ly L j = dy at *
              generalize ld L j = dd at *
              obtain ⟨es1, es2⟩ := snd_s HDM.out
              have hdb := (domB_iff _ _ _).1 HDM.out
              have hsb : (0 ≤ sx dx dd ∧ sx dx dd ≤ 7) ∧ 0 ≤ sy dy dd ∧ sy dy dd ≤ 7 := by unfold sx sy; cases dd <;> simp at hdb ⊢ <;> omega
              have HCU := Lib.hid (fun V => CellsUnder_yes dx dy dd V HDM.out)
              rw [es1, es2] at HCU
              have hd0 : 0 ≤ dx ∧ 0 ≤ dy := hdb.1
              clear hdb es1 es2
              generalize sx dx dd = qx at *
              generalize sy dy dd = qy at *
              go_upto_region 13 with (fail)
              obtain ⟨V9, hV9, k9, b9⟩ := one_alloc w8 (triO dx dy dd 46)
              rw [← hV9]
              have HK9 := Lib.hid (HK8.out.below b9)
              have HA9 := Lib.hid (HA8.out.below b9)
              have HZ9 : Hid (OwnF elLink V9 w.heap.size (.slice (some ⟨w.heap.size, 0, none⟩) 0 0) [] ∧ u.ownBlock ≠ some w.heap.size) := ⟨HZ8.out.1.below b9, HZ8.out.2⟩
              obtain ⟨t0, t1, t2⟩ := tri_cells k9
              clear hV9 k9 b9 hx8 hy8 hz8
              go_wp2_with fail
              refine (HCU.out _).mono ?_
              rintro e10 w10 ⟨rfl, hb10⟩
              have HK10 := Lib.hid (HK9.out.below hb10)
              have HA10 := Lib.hid (HA9.out.below hb10)
              have HZ10 : Hid (OwnF elLink w10 w.heap.size (.slice (some ⟨w.heap.size, 0, none⟩) 0 0) [] ∧ u.ownBlock ≠ some w.heap.size) := ⟨HZ9.out.1.below hb10, HZ9.out.2⟩
              clear hb10 t0 t1 t2 HK8 HA8 HZ8 HK9 HA9 HZ9 HCU
              go_upto_region 14 with (fail)
              obtain ⟨V11, hV11, k11, j11, b11⟩ := two_alloc w10 (.cells #[.int .i64 dx, .int .i64 dy] 44) (.cells #[.int .i64 qx, .int .i64 qy] 44)
              rw [← hV11]
              have HK11 := Lib.hid (HK10.out.below b11)
              have HA11 := Lib.hid (HA10.out.below b11)
              have HZ11 : Hid (OwnF elLink V11 w.heap.size (.slice (some ⟨w.heap.size, 0, none⟩) 0 0) [] ∧ u.ownBlock ≠ some w.heap.size) := ⟨HZ10.out.1.below b11, HZ10.out.2⟩
              have d0 : V11.cell? ⟨w10.heap.size, 0, none⟩ = some (.int .i64 dx) := by rw [blk_cell k11]; rfl
              have d1 : V11.cell? ⟨w10.heap.size, 1, none⟩ = some (.int .i64 dy) := by rw [blk_cell k11]; rfl
              have d2 : V11.cell? ⟨w10.heap.size + 1, 0, none⟩ = some (.int .i64 qx) := by rw [blk_cell j11]; rfl
              have d3 : V11.cell? ⟨w10.heap.size + 1, 1, none⟩ = some (.int .i64 qy) := by rw [blk_cell j11]; rfl
              clear hV11 k11 j11 b11 HK10 HA10 HZ10
              go_cut [107] (fun s wx => s = .bool r ∧ wx = V11)
              case first =>
                have m1 : Int.tmod dx 2 = dx % 2 := Int.tmod_eq_emod_of_nonneg (by omega)
                have m2 : Int.tmod dy 2 = dy % 2 := Int.tmod_eq_emod_of_nonneg (by omega)
                have m3 : Int.tmod qx 2 = qx % 2 := Int.tmod_eq_emod_of_nonneg (by omega)
                have m4 : Int.tmod qy 2 = qy % 2 := Int.tmod_eq_emod_of_nonneg (by omega)
                have hev := HEV.out
                unfold evC at hev
                cases h1 : dx % 2 == 0 <;> cases h2 : dy % 2 == 0 <;> cases h3 : qx % 2 == 0 <;> cases h4 : qy % 2 == 0
                all_goals
                  rw [h1, h2, h3, h4] at hev
                  subst hev
                  go_wp2_with fail
                  go_meet
                  exact ⟨rfl, rfl⟩
              case rest =>
                obtain ⟨rfl, rfl⟩ := hcut
                clear d0 d1 d2 d3
                cases r
                · have HF2 : Hid ((all.take (k + 1)).filter pT = (all.take k).filter pT) := by unfold Hid; rw [HFT.out]; simp
                  go_wp2_with fail
                  go_roundw
                  case rel => exact ⟨k + 1, _, rfl, by omega, by go_num, HK11, by rw [HF2.out]; exact HA11, HZ11⟩
                  case measure => simp [intOf]; omega
                · have HF2 : Hid ((all.take (k + 1)).filter pT = (all.take k).filter pT ++ [(a, b, true)]) := by unfold Hid; rw [HFT.out]; simp
                  have hl9 : ((all.take k).filter pT).length + 1 ≤ 1073741824 := by have := List.length_filter_le pT (all.take k); rw [List.length_take] at this; omega
                  obtain ⟨ad3, ea, p1, p2, x11, y11, z11⟩ := HK11.out.cl k hlt
                  obtain rfl := Option.some.inj ea
                  rw [HE1.out] at x11; rw [HE2.out] at y11; rw [HE3.out] at z11
                  clear ea p1 p2
                  go_wp2_with (at_builtin; refine wpList_push okLink rfl _ _ rfl HA11.out rfl (a, b, true) _ rfl _ rfl rfl hl9 ?_; intro v12 w12 HA12 HG12)
                  have HK12 := Lib.hid (HK11.out.grew HG12.out)
                  have HZ12 := Lib.hid (zero_grew HZ11.out HG12.out)
                  go_roundw
                  case rel => exact ⟨k + 1, _, rfl, by omega, by go_num, HK12, by rw [HF2.out]; exact HA12, HZ12⟩
                  case measure => simp [intOf]; omega
        · obtain rfl : k = all.length := by omega
          have ht : decide ((all.length : Int) < (all.length : Int)) = false := by simp
          rw [List.take_length, HTT.out] at HA
          have HRT := Lib.hid (HA.out.1.rd okLink)
          go_wp2_with fail
          refine (HSPT.out wr u HRT.out).mono ?_
          rintro e6 w6 ⟨u6, rfl, ho6, hb6⟩
          have HO6 := Lib.hid (ho6.rd okDomino)
          have HA6 := Lib.hid (HA.out.below hb6)
          have HZ6 := Lib.hid (HZ.out.1.below hb6)
          clear ho6 hb6
          cases tb
          · have hOZ : OZ = [] := HOZ.out.symm.trans (by simp)
            rw [← hOZ] at HZ6
            clear hOZ
            go_wp2_with fail
            refine bodyPost_ret (v := .tuple #[.slice (some ⟨w.heap.size, 0, none⟩) 0 0, .bool false]) (by simp [results, Try.results43, go_sem]) rfl ⟨_, rfl, HZ6.out, HA6.out.2.1⟩
          · go_wp2_with fail
            refine (specSameD_any u6 _ TQ L w6.heap.size w6 HO6.out ((HV.out.below (HA6.out.2.1.mono hB)).more (Nat.le_trans hB HA6.out.2.1.size)) (Nat.le_refl _)).mono ?_
            rintro e7 w7 ⟨rfl, hd7⟩
            rw [HDB.out]
            have HB7 := Lib.hid (hd7.below w6.heap.size)
            have HA7 := Lib.hid (HA6.out.below HB7.out)
            have HZ7 := Lib.hid (HZ6.out.below HB7.out)
            clear hd7
            cases db
            · have hOZ : OZ = [] := HOZ.out.symm.trans (by simp)
              rw [← hOZ] at HZ7
              clear hOZ
              go_wp2_with fail
              refine bodyPost_ret (v := .tuple #[.slice (some ⟨w.heap.size, 0, none⟩) 0 0, .bool false]) (by simp [results, Try.results43, go_sem]) rfl ⟨_, rfl, HZ7.out, HA7.out.2.1⟩
            · have hOZ : OZ = T := HOZ.out.symm.trans (by simp)
              rw [← hOZ] at HA7
              clear hOZ
              go_wp2_with fail
              refine bodyPost_ret (v := .tuple #[u, .bool true]) (by simp [results, Try.results43, go_sem]) rfl ⟨_, rfl, HA7.out.1, HA7.out.2.1⟩
end Go.Proofs.Ytehnbalbpfmijaa

namespace Go.Proofs.Ytehnbalbpfmijaa
open Go.RowKit
set_option linter.unusedVariables false

/-- What outward returns. -/
def RetOut (w : World) (a b F : Nat) (ls : List Lk) (e : Ending) (w' : World) : Prop :=
  ∃ (v : Value) (kn : Nat → Bool) (cs : Nat → Int × Int), e = .returned v ∧ RdF elCell w' w'.heap.size v ((List.range F).map cs) ∧ OInv a b ls kn cs ∧ QuietTo a b ls kn F 0 ∧ Below w.heap.size w w' ∧ ∃ g, v = .slice (some ⟨g, 0, none⟩) F F ∧ w.heap.size ≤ g
set_option maxRecDepth 100000 in
set_option maxHeartbeats 4000000 in
theorem outward_any (wd hh a b : Nat) (u : Value) (ls : List Lk) (B : Nat) (w : World) (hu : RdF elLink w B u ls) (hB : B ≤ w.heap.size) (h1 : 1 ≤ wd ∧ wd ≤ 4) (h2 : 1 ≤ hh ∧ hh ≤ 4) (ha : wd = a + 1) (hb : hh = b + 1) :
    Calls Try.prog 102 #[.int .i64 wd, .int .i64 hh, u] w (RetOut w a b (a * b) ls) := by
  have HU := Lib.hid hu
  obtain ⟨A, c, rfl, g1, g2, _⟩ := hu
  unfold maxLen at g2
  have hwa : (wd : Int) - 1 = (a : Int) := by omega
  have hhb : (hh : Int) - 1 = (b : Int) := by omega
  have ha3 : a ≤ 3 := by omega
  have hb3 : b ≤ 3 := by omega
  obtain ⟨F, hF⟩ : ∃ F, a * b = F := ⟨_, rfl⟩
  have hF9 : F ≤ 9 := by rw [← hF]; exact Nat.mul_le_mul ha3 hb3
  have hab : (a : Int) * (b : Int) = (F : Int) := by rw [← hF]; simp
  have habw : IntKind.i64.wrap ((a : Int) * (b : Int)) = (F : Int) := by rw [hab]; exact IntWalk.i64_in _ (by omega)
  have hFw : IntKind.i64.wrap (F : Int) = (F : Int) := IntWalk.i64_in _ (by omega)
  have HF := Lib.hid hF
  have HWD := Lib.hid ha
  have HHT := Lib.hid hb
  have hmO := fun W => run_makeO F (by omega) W
  have hmK := fun W => run_makeK F (by omega) W
  have hmf : ∀ (fn : Fn) (first cap : Array Value) (w : World), (Instr.makeFunc fn first cap).run Try.prog w = .ok (.func fn first cap) w := fun _ _ _ _ => rfl
  rw [hF]
  clear ha hb hF
  go_enter Try.func102, Try.ntmps102
  go_upto_region 2 with (fail)
  obtain ⟨W, hW, k0, hbW⟩ := one_alloc w (.cells #[.slice A ls.length c] 53)
  rw [← hW]
  have HK0 := Lib.hid k0
  have HBW := Lib.hid hbW
  clear hW k0 hbW
  go_cut [9, 10] (fun o k wx => ∃ gO gK, o = .slice (some ⟨gO, 0, none⟩) F F ∧ k = .slice (some ⟨gK, 0, none⟩) F F ∧ Hid (OMem w wx gO gK (.slice A ls.length c) F (fun _ => false) (fun _ => (0, 0))))
  case first =>
    go_wp2_with fail
    refine wp_region_held_drew (S := fun w' => True) (by kernel_rfl) trivial (fun hHeld => ?_)
    refine wpAnyH_take (i := 0) (oi := ⟨_, _, _, _, _, _⟩) (v := ?vap30937q1n0) rfl (by kernel_rfl) (by kernel_rfl) (by kernel_rfl) (fun _ _ _ h => h) (Or.inl ⟨by rfl, ?hap30937q1n0⟩) (by assumption) ?_
    case hap30937q1n0 => (intro w hSw; (try dsimp only at hSw); go_simp; try with_reducible rfl)
    try simp only [Act.put, List.setIfInBounds_toArray, List.set_cons_zero, List.set_cons_succ]
    refine wpAnyH_take (i := 1) (oi := ⟨_, _, _, _, _, _⟩) (v := ?vap30937q2n1) rfl (by kernel_rfl) (by kernel_rfl) (by kernel_rfl) (fun _ _ _ h => h) (Or.inl ⟨by rfl, ?hap30937q2n1⟩) (by assumption) ?_
    case hap30937q2n1 => (intro w hSw; (try dsimp only at hSw); go_simp; try with_reducible rfl)
    try simp only [Act.put, List.setIfInBounds_toArray, List.set_cons_zero, List.set_cons_succ]
    refine wpAnyH_take (i := 2) (oi := ⟨_, _, _, _, _, _⟩) (v := ?vap30937q3n2) rfl (by kernel_rfl) (by kernel_rfl) (by kernel_rfl) (fun _ _ _ h => h) (Or.inl ⟨by rfl, ?hap30937q3n2⟩) (by assumption) ?_
    case hap30937q3n2 => (intro w hSw; (try dsimp only at hSw); go_simp; try with_reducible rfl)
    try simp only [Act.put, List.setIfInBounds_toArray, List.set_cons_zero, List.set_cons_succ]
    refine wpAnyH_take (i := 4) (oi := ⟨_, _, _, _, _, _⟩) (v := ?vap30937q4n4) rfl (by kernel_rfl) (by kernel_rfl) (by kernel_rfl) (fun _ _ _ h => h) (Or.inl ⟨by rfl, ?hap30937q4n4⟩) (by assumption) ?_
    case hap30937q4n4 => (intro w hSw; (try dsimp only at hSw); go_simp; try with_reducible rfl)
    try simp only [Act.put, List.setIfInBounds_toArray, List.set_cons_zero, List.set_cons_succ]
    refine wpAnyH_take (i := 5) (oi := ⟨_, _, _, _, _, _⟩) (v := ?vap30937q5n5) rfl (by kernel_rfl) (by kernel_rfl) (by kernel_rfl) (fun _ _ _ h => h) (Or.inl ⟨by rfl, ?hap30937q5n5⟩) (by assumption) ?_
    case hap30937q5n5 => (intro w hSw; (try dsimp only at hSw); go_simp; try with_reducible rfl)
    try simp only [Act.put, List.setIfInBounds_toArray, List.set_cons_zero, List.set_cons_succ]
    refine wpAnyH_take (i := 6) (oi := ⟨_, _, _, _, _, _⟩) (v := ?vap30937q6n6) rfl (by kernel_rfl) (by kernel_rfl) (by kernel_rfl) (fun _ _ _ h => h) (Or.inl ⟨by rfl, ?hap30937q6n6⟩) (by assumption) ?_
    case hap30937q6n6 => (intro w hSw; (try dsimp only at hSw); go_simp; try with_reducible rfl)
    try simp only [Act.put, List.setIfInBounds_toArray, List.set_cons_zero, List.set_cons_succ]
    refine wpAnyH_ready (rs := [3, 7]) (by kernel_rfl) (by simp) ?_
    refine AllReadyH.cons (o := ⟨_, _, _, _, _, _⟩) rfl (fun K hK => ?cp30937q7n3) (AllReadyH.cons (o := ⟨_, _, _, _, _, _⟩) rfl (fun K hK => ?cp30937q7n7) AllReadyH.nil)
    case cp30937q7n3 =>
      go_simp
      refine hK.out _ _ (by trivial) (fun hHeld => ?_)
      clear hK K
      try simp only [Act.put, List.setIfInBounds_toArray, List.set_cons_zero, List.set_cons_succ]
      refine wpAnyH_take (i := 8) (oi := ⟨_, _, _, _, _, _⟩) (v := ?vap30937q8n8) rfl (by kernel_rfl) (by kernel_rfl) (by kernel_rfl) (fun _ _ _ h => h) (Or.inl ⟨by rfl, ?hap30937q8n8⟩) (by assumption) ?_
      case hap30937q8n8 => (intro w hSw; (try dsimp only at hSw); go_simp; try with_reducible rfl)
      try simp only [Act.put, List.setIfInBounds_toArray, List.set_cons_zero, List.set_cons_succ]
      refine wpAnyH_ready (rs := [7]) (by kernel_rfl) (by simp) ?_
      refine AllReadyH.cons (o := ⟨_, _, _, _, _, _⟩) rfl (fun K hK => ?_) AllReadyH.nil
      go_simp
      refine hK.out _ _ (by trivial) (fun hHeld => ?_)
      clear hK K
      try simp only [Act.put, List.setIfInBounds_toArray, List.set_cons_zero, List.set_cons_succ]
      refine wpAnyH_take (i := 9) (oi := ⟨_, _, _, _, _, _⟩) (v := ?vap30937q9n9) rfl (by kernel_rfl) (by kernel_rfl) (by kernel_rfl) (fun _ _ _ h => h) (Or.inl ⟨by rfl, ?hap30937q9n9⟩) (by assumption) ?_
      case hap30937q9n9 => (intro w hSw; (try dsimp only at hSw); go_simp; try with_reducible rfl)
      try simp only [Act.put, List.setIfInBounds_toArray, List.set_cons_zero, List.set_cons_succ]
      refine wpAnyH_done (by kernel_rfl) ?_ _
      go_wp2_with fail
      go_meet
      first | exact ⟨_, _, rfl, rfl, (OMem.made HK0.out HBW.out).1⟩ | exact ⟨_, _, rfl, rfl, (OMem.made HK0.out HBW.out).2⟩
    case cp30937q7n7 =>
      go_simp
      refine hK.out _ _ (by trivial) (fun hHeld => ?_)
      clear hK K
      try simp only [Act.put, List.setIfInBounds_toArray, List.set_cons_zero, List.set_cons_succ]
      refine wpAnyH_ready (rs := [3]) (by kernel_rfl) (by simp) ?_
      refine AllReadyH.cons (o := ⟨_, _, _, _, _, _⟩) rfl (fun K hK => ?_) AllReadyH.nil
      go_simp
      refine hK.out _ _ (by trivial) (fun hHeld => ?_)
      clear hK K
      try simp only [Act.put, List.setIfInBounds_toArray, List.set_cons_zero, List.set_cons_succ]
      refine wpAnyH_take (i := 8) (oi := ⟨_, _, _, _, _, _⟩) (v := ?vap30937q10n8) rfl (by kernel_rfl) (by kernel_rfl) (by kernel_rfl) (fun _ _ _ h => h) (Or.inl ⟨by rfl, ?hap30937q10n8⟩) (by assumption) ?_
      case hap30937q10n8 => (intro w hSw; (try dsimp only at hSw); go_simp; try with_reducible rfl)
      try simp only [Act.put, List.setIfInBounds_toArray, List.set_cons_zero, List.set_cons_succ]
      refine wpAnyH_take (i := 9) (oi := ⟨_, _, _, _, _, _⟩) (v := ?vap30937q11n9) rfl (by kernel_rfl) (by kernel_rfl) (by kernel_rfl) (fun _ _ _ h => h) (Or.inl ⟨by rfl, ?hap30937q11n9⟩) (by assumption) ?_
      case hap30937q11n9 => (intro w hSw; (try dsimp only at hSw); go_simp; try with_reducible rfl)
      try simp only [Act.put, List.setIfInBounds_toArray, List.set_cons_zero, List.set_cons_succ]
      refine wpAnyH_done (by kernel_rfl) ?_ _
      go_wp2_with fail
      go_meet
      first | exact ⟨_, _, rfl, rfl, (OMem.made HK0.out HBW.out).1⟩ | exact ⟨_, _, rfl, rfl, (OMem.made HK0.out HBW.out).2⟩
  case rest =>
    obtain ⟨gO, gK, rfl, rfl, HM⟩ := hcut
    go_wp2_with fail
    have HS0 := Lib.hid (OMs.start HM.out)
    clear HM HK0 HBW
    generalize (World.alloc wc _) = W1 at *
    generalize wc.heap.size = nS at *
    have HU0 : Hid (unk F (fun _ => false) + (if true then 1 else 0) ≤ F + 1) := by have := unk_le F (fun _ => false); unfold Hid; simp; omega
    have HI0 := Lib.hid (OInv.start a b ls (fun _ => (0, 0)))
    clear hmO hmK hmf
    go_loopg [13] (F + 1) (fun gk s wr => ∃ (kn : Nat → Bool) (cs : Nat → Int × Int) (ag : Bool), s = .bool ag ∧ Hid (OMs w wr gO gK nS (.slice A ls.length c) F kn cs) ∧ Hid (OInv a b ls kn cs) ∧ Hid (unk F kn + (if ag then 1 else 0) ≤ gk) ∧ Hid (ag = false → QuietTo a b ls kn F 0))
    case atStart => exact ⟨_, _, true, rfl, HS0, HI0, HU0.out, fun h => by simp at h⟩
    case round =>
      obtain ⟨kn, cs, ag, rfl, HS, HI, HUN, HQ⟩ := hrel
      clear HS0 HI0 HU0
      cases ag
      · go_wp2_with fail
        go_ret
        exact ⟨_, kn, cs, rfl, HS.out.m.rd hF9, HI.out, HQ.out (by trivial), HS.out.m.big, _, rfl, Nat.le_of_lt HS.out.m.ne.2.1⟩
      · have HUN1 : Hid (unk F kn + (if false then 1 else 0) ≤ gk - 1) := by have := HUN.out; unfold Hid; simp at this ⊢; omega
        have hgk : gk - 1 < gk := by have := HUN.out; simp at this; omega
        have HQ0 := Lib.hid (QuietTo.start a b ls kn)
        clear HUN HQ
        go_wp2_with fail
        go_loopw [13, 44] (fun s i wr2 => ∃ (k : Nat) (kn2 : Nat → Bool) (cs2 : Nat → Int × Int) (ag2 : Bool), k ≤ F ∧ i = .int .i64 (k : Int) ∧ s = .bool ag2 ∧ Hid (OMs w wr2 gO gK nS (.slice A ls.length c) F kn2 cs2) ∧ Hid (OInv a b ls kn2 cs2) ∧ Hid (unk F kn2 + (if ag2 then 1 else 0) ≤ gk - 1) ∧ Hid (ag2 = false → QuietTo a b ls kn2 k 0)) (fun _ i _ => F - (intOf i).toNat)
        case atStart => exact ⟨0, kn, cs, false, Nat.zero_le _, rfl, rfl, HS, HI, HUN1, fun _ => HQ0.out⟩
        case round =>
          obtain ⟨k, kn2, cs2, ag2, hk, rfl, rfl, HS2, HI2, HUN2, HQ2⟩ := hrel
          clear HS HI HUN1 HQ0
          by_cases hlt : k < F
          · have ht : decide ((k : Int) < (F : Int)) = true := by simp only [decide_eq_true_eq]; omega
            have ha0 : 0 < a := Nat.pos_of_ne_zero fun e => by have := HF.out; rw [e] at this; omega
            have hqb : k / a < b := (Nat.div_lt_iff_lt_mul ha0).2 (by have := HF.out; rw [Nat.mul_comm]; omega)
            have hpa : k % a < a := Nat.mod_lt _ ha0
            have hq1 : (k : Int) / (a : Int) = ((k / a : Nat) : Int) := by rw [Int.natCast_ediv]
            have hr1 : (k : Int) % (a : Int) = ((k % a : Nat) : Int) := by rw [Int.natCast_emod]
            have hq2 : Int.tdiv (k : Int) (a : Int) = ((k / a : Nat) : Int) := by rw [Int.tdiv_eq_ediv_of_nonneg (by omega)]; exact hq1
            have hr2 : Int.tmod (k : Int) (a : Int) = ((k % a : Nat) : Int) := by rw [Int.tmod_eq_emod_of_nonneg (by omega)]; exact hr1
            have HPD : Hid (∀ d, nbU a k d = ((k % a : Nat) : Int) + d.1 ∧ nbV a k d = ((k / a : Nat) : Int) + d.2) := fun d => ⟨rfl, rfl⟩
            have HPC : Hid (cellF (a + 1) k = (2 * ((k % a : Nat) : Int) + 1, 2 * ((k / a : Nat) : Int) + 1)) := cellF_mod
            generalize k % a = p at *
            generalize k / a = q at *
            have ha1 : (0 : Int) < (a : Int) := by omega
            have hz : ((a : Int) == 0) = false := by rw [beq_eq_false_iff_ne]; omega
            have hk0 : (0 : Int) ≤ (k : Int) := by omega
            have hk1 : (k : Int) < (F : Int) := by omega
            have hk9 : (k : Int) < 9 := by omega
            go_wp2_with fail
            go_quiet (fail)
            go_wp2_with fail
            clear hq1 hr1 hq2 hr2 hz hk9
            go_loopw [13, 55] (fun s j wr3 => ∃ (m : Nat) (kn3 : Nat → Bool) (cs3 : Nat → Int × Int) (ag3 : Bool), m ≤ 4 ∧ j = .int .i64 (m : Int) ∧ s = .bool ag3 ∧ Hid (OMs w wr3 gO gK nS (.slice A ls.length c) F kn3 cs3) ∧ Hid (OInv a b ls kn3 cs3) ∧ Hid (unk F kn3 + (if ag3 then 1 else 0) ≤ gk - 1) ∧ Hid (ag3 = false → QuietTo a b ls kn3 k m)) (fun _ j _ => 4 - (intOf j).toNat)
            case atStart => exact ⟨0, kn2, cs2, ag2, Nat.zero_le _, rfl, rfl, HS2.out.below (Drawn.below ⟨_, rfl⟩ _), HI2, HUN2, HQ2⟩
            case round =>
              obtain ⟨m, kn3, cs3, ag3, hm, rfl, rfl, HS3, HI3, HUN3, HQ3⟩ := hrel
              clear HS2 HI2 HUN2 HQ2
              by_cases hlm : m < 4
              · have htm : decide ((m : Int) < 4) = true := by simp only [decide_eq_true_eq]; omega
                obtain ⟨hsx, hsy⟩ := HS3.out.cells.1 m hlm
                obtain ⟨X, Y, hXY⟩ : ∃ X Y, sd m = (X, Y) := ⟨_, _, rfl⟩
                have hdir := sd_dir hlm
                rw [hXY] at hsx hsy hdir
                simp only at hsx hsy
                have hXb : (-1 ≤ X ∧ X ≤ 1) ∧ -1 ≤ Y ∧ Y ≤ 1 := by
                  rcases (dirs4_iff _).1 hdir with e | e | e | e <;> simp at e <;> omega
                obtain ⟨⟨hX0, hX1⟩, hY0, hY1⟩ := hXb
                have HXY := Lib.hid hXY
                have HDIR := Lib.hid hdir
                have hm0 : (0 : Int) ≤ (m : Int) := by omega
                have hm1 : (m : Int) < 4 := by omega
                clear hXY hdir
                go_upto_region 15 with (fail)
                obtain ⟨V1, hV1, kV1, bV1⟩ := one_alloc wr (.cells #[.int .i64 X, .int .i64 Y] 44)
                rw [← hV1]
                obtain ⟨n9, hn9⟩ : ∃ n9, wr.heap.size = n9 := ⟨_, rfl⟩
                have HS4 := Lib.hid (HS3.out.below bV1)
                have HK9 := Lib.hid kV1
                rw [hn9] at HK9 ⊢
                have z0 : V1.cell? ⟨n9, 0, none⟩ = some (.int .i64 X) := by rw [blk_cell HK9.out]; rfl
                have z1 : V1.cell? ⟨n9, 1, none⟩ = some (.int .i64 Y) := by rw [blk_cell HK9.out]; rfl
                obtain ⟨U, hU⟩ : ∃ U, (p : Int) + X = U := ⟨_, rfl⟩
                obtain ⟨Z, hZ⟩ : ∃ Z, (q : Int) + Y = Z := ⟨_, rfl⟩
                have hUw : IntKind.i64.wrap ((p : Int) + X) = U := by rw [IntWalk.i64_in _ (by omega)]; exact hU
                have hZw : IntKind.i64.wrap ((q : Int) + Y) = Z := by rw [IntWalk.i64_in _ (by omega)]; exact hZ
                obtain ⟨ob, HOB⟩ : ∃ ob, Hid ((decide (U < 0) || (decide (Z < 0) || (decide ((a : Int) ≤ U) || decide ((b : Int) ≤ Z)))) = ob) := ⟨_, rfl⟩
                have HOB2 : Hid (outB a b k (X, Y) = ob) := by
                  unfold Hid
                  rw [← HOB.out]
                  unfold outB
                  rw [(HPD.out (X, Y)).1, (HPD.out (X, Y)).2]
                  show (decide ((p : Int) + X < 0) || (decide ((q : Int) + Y < 0) || (decide ((a : Int) ≤ (p : Int) + X) || decide ((b : Int) ≤ (q : Int) + Y)))) = _
                  rw [hU, hZ]
                clear hV1 kV1 bV1 HS3 hsx hsy hn9
                go_wp2_with fail
                go_quiet (fail)
                go_upto_region 16 with (fail)
                generalize hV2 : World.drewN V1 _ = V2
                have HS5 : Hid (OMs w V2 gO gK nS (.slice A ls.length c) F kn3 cs3) := by unfold Hid; rw [← hV2]; exact HS4.out.below (Drawn.below ⟨_, rfl⟩ _)
                have HK5 : Hid (V2.heap[n9]? = some (.cells #[.int .i64 X, .int .i64 Y] 44 (0, 0))) := by unfold Hid; rw [← hV2]; exact HK9.out
                clear hV2 HS4 HK9 z0 z1 hUw hZw
                go_cut [21] (fun s wx => s = .bool ob ∧ wx = V2)
                case first =>
                  by_cases c1 : U < 0
                  · have H : Hid (true = ob) := by unfold Hid; rw [← HOB.out]; simp [c1]
                    go_wp2_with fail
                    go_meet
                    exact ⟨by rw [H.out], rfl⟩
                  · by_cases c2 : Z < 0
                    · have H : Hid (true = ob) := by unfold Hid; rw [← HOB.out]; simp [c2]
                      go_wp2_with fail
                      go_meet
                      exact ⟨by rw [H.out], rfl⟩
                    · by_cases c3 : (a : Int) ≤ U
                      · have H : Hid (true = ob) := by unfold Hid; rw [← HOB.out]; simp [c3]
                        go_wp2_with fail
                        go_meet
                        exact ⟨by rw [H.out], rfl⟩
                      · by_cases c4 : (b : Int) ≤ Z
                        · have H : Hid (true = ob) := by unfold Hid; rw [← HOB.out]; simp [c4]
                          go_wp2_with fail
                          go_meet
                          exact ⟨by rw [H.out], rfl⟩
                        · have H : Hid (false = ob) := by unfold Hid; rw [← HOB.out]; simp [c1, c2, c3, c4]
                          go_wp2_with fail
                          go_meet
                          exact ⟨by rw [H.out], rfl⟩
                case rest =>
                  obtain ⟨rfl, rfl⟩ := hcut
                  clear HOB
                  have z0 : wc.cell? ⟨n9, 0, none⟩ = some (.int .i64 X) := by rw [blk_cell HK5.out]; rfl
                  have z1 : wc.cell? ⟨n9, 1, none⟩ = some (.int .i64 Y) := by rw [blk_cell HK5.out]; rfl
                  have hp0 : (0 : Int) ≤ (p : Int) ∧ (p : Int) ≤ 2 := by omega
                  have hq0 : (0 : Int) ≤ (q : Int) ∧ (q : Int) ≤ 2 := by omega
                  obtain ⟨hp0, hp2⟩ := hp0
                  obtain ⟨hq0, hq2⟩ := hq0
                  go_upto_region 18 with (fail)
                  obtain ⟨cx, hcx⟩ : ∃ cx, 2 * (p : Int) + 1 + X = cx := ⟨_, rfl⟩
                  obtain ⟨cy, hcy⟩ : ∃ cy, 2 * (q : Int) + 1 + Y = cy := ⟨_, rfl⟩
                  rw [hcx, hcy]
                  obtain ⟨V3, hV3, kV3, bV3⟩ := one_alloc wc (.cells #[.int .i64 cx, .int .i64 cy] 44)
                  rw [← hV3]
                  obtain ⟨n8, hn8⟩ : ∃ n8, wc.heap.size = n8 := ⟨_, rfl⟩
                  have HS6 := Lib.hid (HS5.out.below bV3)
                  have HK6 := Lib.hid kV3
                  rw [hn8] at HK6 ⊢
                  have hc0 : (0 ≤ cx ∧ cx ≤ 100) ∧ 0 ≤ cy ∧ cy ≤ 100 := by omega
                  have HC0 := Lib.hid hc0
                  have HPAD : Hid (pad (cellF (a + 1) k) (X, Y) = (cx, cy)) := by unfold Hid; rw [HPC.out, ← hcx, ← hcy]; rfl
                  obtain ⟨kk, HKK⟩ : ∃ kk, Hid (kn3 k = kk) := ⟨_, rfl⟩
                  obtain ⟨oc, HOC⟩ : ∃ oc, Hid (openB ls (cx, cy) = oc) := ⟨_, rfl⟩
                  obtain ⟨kb, HKB⟩ : ∃ kb, Hid (kn3 (nb a k (X, Y)) = kb) := ⟨_, rfl⟩
                  have HCB : Hid (condB a b ls kn3 k (X, Y) = (!kk && (oc && (ob || kb)))) := by unfold Hid condB; rw [HPAD.out, HKK.out, HOC.out, HKB.out, HOB2.out]
                  have HOPN := Lib.hid (fun (V : World) (hV : Below w.heap.size w V) (hx : V.heap[w.heap.size]? = some (.cells #[.slice A ls.length c] 53 (0, 0))) => openC_any ls (.slice A ls.length c) cx cy HC0.out.1 HC0.out.2 w.heap.size B V (HU.out.below (hV.mono hB)) (Nat.le_trans hB hV.size) hx)
                  have e0 : V3.cell? ⟨n8, 0, none⟩ = some (.int .i64 cx) := by rw [blk_cell HK6.out]; rfl
                  have e1 : V3.cell? ⟨n8, 1, none⟩ = some (.int .i64 cy) := by rw [blk_cell HK6.out]; rfl
                  have hkc : V3.cell? ⟨gK, k, none⟩ = some (.bool kk) := by rw [((HS6.out.cells).2.1 k hlt).1, HKK.out]
                  clear hV3 kV3 bV3 hn8 z0 z1 HS5 HK5 hcx hcy hc0
                  go_cut [118] (fun s2 wx => s2 = .bool (!kk && (oc && (ob || kb))) ∧ Hid (OMs w wx gO gK nS (.slice A ls.length c) F kn3 cs3) ∧ Hid (wx.heap[n8]? = some (.cells #[.int .i64 cx, .int .i64 cy] 44 (0, 0))))
                  case first =>
                    cases kk
                    · go_wp2_with fail
                      refine (HOPN.out _ HS6.out.m.big HS6.out.m.box).mono ?_
                      rintro e w5 ⟨rfl, hb5⟩
                      rw [HOC.out]
                      have HS7 := Lib.hid (HS6.out.below hb5)
                      have HK7 := Lib.hid (blk_below HK6.out hb5)
                      clear hb5 e0 e1 hkc
                      cases oc
                      · go_wp2_with fail
                        go_meet
                        exact ⟨rfl, HS7, HK7⟩
                      · cases ob
                        · obtain ⟨n1, n2, _, _⟩ := nb_lt HOB2.out
                          have hob := outB_no HOB2.out
                          rw [(HPD.out (X, Y)).1, (HPD.out (X, Y)).2] at n2 hob
                          simp only at n2 hob
                          rw [hU, hZ] at n2 hob
                          have hnc : w5.cell? ⟨gK, nb a k (X, Y), none⟩ = some (.bool kb) := by rw [((HS7.out.cells).2.1 _ (by rw [← HF.out]; exact n1)).1, HKB.out]
                          have hnF : ((nb a k (X, Y) : Nat) : Int) < (F : Int) := by have := HF.out; omega
                          obtain ⟨⟨u0, u1⟩, z0, z1⟩ := hob
                          generalize nb a k (X, Y) = nn at *
                          have hn0 : (0 : Int) ≤ (nn : Int) := by omega
                          have hm0 : 0 ≤ Z * (a : Int) := Int.mul_nonneg z0 (by omega)
                          have hm9 : Z * (a : Int) ≤ 9 := by omega
                          have hnn : Z * (a : Int) + U = (nn : Int) := n2.symm
                          clear n1 n2 hU hZ
                          go_wp2_with fail
                          go_meet
                          exact ⟨by cases kb <;> rfl, HS7, HK7⟩
                        · go_wp2_with fail
                          go_meet
                          exact ⟨rfl, HS7, HK7⟩
                    · go_wp2_with fail
                      go_meet
                      exact ⟨rfl, HS6, HK6⟩
                  case rest =>
                    obtain ⟨rfl, HS7, HK7⟩ := hcut
                    clear HS6 HK6 e0 e1 hkc HOPN
                    generalize (!kk && (oc && (ob || kb))) = cb at *
                    cases cb
                    · have HQ5 : Hid (ag3 = false → QuietTo a b ls kn3 k (m + 1)) := fun h => (HQ3.out h).step (by rw [HXY.out]; exact HCB.out)
                      go_wp2_with fail
                      go_roundw
                      case rel => exact ⟨m + 1, _, _, _, by omega, by go_num, rfl, HS7, HI3, HUN3, HQ5⟩
                      case measure => simp [intOf]; omega
                    · obtain ⟨c1, c2, c3⟩ := HS7.out.cells.2.1 k hlt
                      obtain ⟨f1, f2⟩ := HS7.out.cells.2.2
                      have hne1 := HS7.out.m.ne.1
                      have hne2 : gK ≠ gO := fun e => hne1 e.symm
                      have e0 := (blk_cell (k := 0) HK7.out)
                      have e1 := (blk_cell (k := 1) HK7.out)
                      have HSN := Lib.hid (HS7.out.set hlt cx cy)
                      have HIN : Hid (OInv a b ls (updB kn3 k) (updC cs3 k (cx, cy))) := by
                        have := HI3.out.step HDIR.out HCB.out
                        rw [HPAD.out] at this; exact this
                      have HUN5 : Hid (unk F (updB kn3 k) + (if true then 1 else 0) ≤ gk - 1) := by
                        have h1 := unk_upd (F := F) (kn := kn3) hlt (cond_iff.1 HCB.out).1
                        have h2 := HUN3.out
                        unfold Hid; simp; omega
                      go_wp2_with fail
                      go_roundw
                      case rel => exact ⟨m + 1, updB kn3 k, updC cs3 k (cx, cy), true, by omega, by go_num, rfl, HSN, HIN, HUN5, fun h => by simp at h⟩
                      case measure => simp [intOf]; omega
              · obtain rfl : m = 4 := by omega
                have HQ4 : Hid (ag3 = false → QuietTo a b ls kn3 (k + 1) 0) := fun h => (HQ3.out h).next
                go_wp2_with fail
                go_roundw
                case rel => exact ⟨k + 1, _, _, _, by omega, by go_num, rfl, HS3, HI3, HUN3, HQ4⟩
                case measure => simp [intOf]; omega
          · have ht : decide ((k : Int) < (F : Int)) = false := by simp only [decide_eq_false_iff_not]; omega
            obtain rfl : k = F := by omega
            go_wp2_with fail
            go_roundg (gk - 1)
            case measure => exact hgk
            case rel => exact ⟨_, _, _, rfl, HS2, HI2, HUN2.out, HQ2⟩
end Go.Proofs.Ytehnbalbpfmijaa
