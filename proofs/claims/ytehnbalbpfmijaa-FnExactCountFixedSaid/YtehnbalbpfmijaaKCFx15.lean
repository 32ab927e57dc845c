/- What the claim's walk rests on: parts FixS, FixL, WCountFixed. -/
import Derived.Test.YtehnbalbpfmijaaKCFx14
import Derived.Test.YtehnbalbpfmijaaKCFx11
namespace Go.Proofs.Ytehnbalbpfmijaa
open Go.RowKit
set_option linter.unusedVariables false

theorem NRel.rdDL {w wr : World} {base lo hi : Nat} {v : Value} {xs : List (List Lk)} (h : NRel (kdF elDomino) eDL w base lo wr hi v xs) : RdN (RdF elDomino) wr wr.heap.size v xs :=
  h.rdN (K := kdF elDomino) okDL fun _ _ _ _ _ hx => hx.1.rd okDomino
theorem lmovS (s : Nat) (hs : s = 2 ∨ s = 4) (tn : Nat) (htn : tn ≤ 3) (m : Bool) (v : Value) (ls : List Lk) (hl : ls ∈ allT s) (B : Nat) (w : World) (h : RdF elDomino w B v ls) (hB : B ≤ w.heap.size) :
    Calls Try.prog 67 #[.int .i64 (s : Int), v, .int .i64 (tn : Int), .bool m] w fun e w' => ∃ u, e = .returned u ∧ OwnF elDomino w' w.heap.size u (seenZ (s : Int) ls tn m) ∧ Below w.heap.size w w' := by
  rw [seen_sq hs hl htn m]
  cases m
  · exact l19Moved_false s v ls tn htn B w h hB (til_sq hs hl)
  · exact l19Moved_true s v ls tn htn B w h hB (til_sq hs hl)
set_option maxRecDepth 100000 in
theorem specListT_sq (s : Nat) (hs : s = 2 ∨ s = 4) (v : Value) (B : Nat) (w : World) (h : RdI w B v (rectZ s s)) (hB : B ≤ w.heap.size) :
    Calls Try.prog 91 #[.agg #[v]] w (RetN (kdF elDomino) eDL w (allT s)) := by
  obtain ⟨hb1, hb2, hb3⟩ := fix_at hs
  have hok := rectZ_ok s s (by omega) (by omega)
  have hl := lst_sq hs
  generalize rectZ s s = zs at *
  generalize allT s = L at *
  exact specListTilings_yes v zs B w h hB hok hb2 20 (by omega) L (Nat.le_trans hb3 (by omega)) hl

set_option maxRecDepth 100000 in
set_option maxHeartbeats 4000000 in
theorem specCountFixed_yes2 (s : Nat) (hs2 : s = 2) (tn : Nat) (htn : tn ≤ 3) (m : Bool) (w : World) :
    Calls Try.prog 31 #[.int .i64 (s : Int), .int .i64 (tn : Int), .bool m] w fun e w' => e = .returned (.int .i64 (fixN s tn m : Nat)) ∧ Below w.heap.size w w' := by
  have hs : s = 2 ∨ s = 4 := by omega
  obtain ⟨hb1, hb2, hb3⟩ := fix_at hs
  have HFN : Hid (fixN s tn m = numTo (fixB s tn m) (allT s) (allT s).length) := rfl
  rw [HFN.out]
  have HLT := Lib.hid (specListT_sq s hs)
  have HRC := Lib.hid (specRectangle_yes s s (by omega) (by omega))
  have HSN := Lib.hid (fun v ls hl B w h hB => lmovS s hs tn htn m v ls hl B w h hB)
  have HFB : Hid (∀ ls, fixB s tn m ls = decide (seenZ s ls tn m = ls)) := fun _ => rfl
  generalize rectZ s s = rz at *
  generalize allT s = L at *
  obtain ⟨p, HP⟩ : ∃ p, Hid (fixB s tn m = p) := ⟨_, rfl⟩
  rw [HP.out] at HFB ⊢
  obtain ⟨sz, HSZ⟩ : ∃ sz, Hid ((fun ls => seenZ (s : Int) ls tn m) = sz) := ⟨_, rfl⟩
  have hsz : ∀ ls, seenZ (s : Int) ls tn m = sz ls := fun ls => by rw [← HSZ.out]
  simp only [hsz, Hid] at HSN HFB
  replace HSN := Lib.hid HSN; replace HFB := Lib.hid HFB
  have HNS := Lib.hid (numTo_step p L)
  have HNL := Lib.hid (numTo_le p L)
  have HN0 : Hid (numTo p L 0 = 0) := rfl
  obtain ⟨nt, HNT⟩ : ∃ nt, Hid (nt = numTo p L) := ⟨_, rfl⟩
  rw [← HNT.out] at HNS HNL HN0 ⊢
  clear HFN HP HSZ hsz HNT hb1 hb2
  have hc2' : ((s : Int) != 2) = false := by rw [hs2]; rfl
  have hin : inB (tn : Int) 0 3 = true := by rw [inB_iff]; omega
  clear hs2 hs
  go_enter Try.func31, Try.ntmps31
  go_wp2_with fail
  refine (l01In_any _ _ _ _).mono ?_
  rintro e w0 ⟨rfl, rfl⟩
  rw [hin]
  go_wp2_with fail
  refine (HRC.out _).mono ?_
  rintro e w1 ⟨u1, rfl, hr1, hb1⟩
  have HB1 := Lib.hid hb1
  have HL := Lib.hid (HLT.out u1 _ w1 hr1 (Nat.le_refl _))
  clear hb1 hr1
  go_wp2_with fail
  refine HL.out.mono ?_
  rintro e w2 ⟨v2, hi2, rfl, hN2⟩
  have HB2 := Lib.hid (HB1.out.trans (hN2.choose_spec.1.2.1.mono HB1.out.size))
  obtain ⟨A2, c2, rfl, q1, q2, G⟩ := hN2.rdDL.open_
  unfold maxLen at q2
  have HG := Lib.hid G
  clear hN2 HL G
  go_wp2_with fail
  go_loopw [7, 9] (fun n i wr => ∃ k : Nat, k ≤ L.length ∧ i = .int .i64 (k : Int) ∧ n = .int .i64 (nt k : Nat) ∧ Hid (Below w2.heap.size w2 wr)) (fun _ i _ => L.length - (intOf i).toNat)
  case atStart => exact ⟨0, Nat.zero_le _, rfl, by rw [HN0.out]; rfl, Below.refl _ _⟩
  case round =>
    obtain ⟨k, hk, rfl, rfl, HB⟩ := hrel
    have hnk := HNL.out k
    by_cases hlt : k < L.length
    · have ht : decide ((k : Int) < (L.length : Int)) = true := by simp only [decide_eq_true_eq]; omega
      obtain ⟨ad, sl, rfl, hbl, hc, hx⟩ := HG.out k hlt
      have hc2 : wr.cell? (ad.add k) = some (slV sl) := (HB.out.cell (by rw [addBlock]; exact hbl)).trans hc
      have HBL : Hid ((ad.add k).block < wr.heap.size) := by unfold Hid; rw [addBlock]; exact Nat.lt_of_lt_of_le hbl HB.out.size
      have HX := Lib.hid ((hx.below HB.out).more HB.out.size)
      have HK := Lib.hid (HFB.out L[k])
      have HSTP := Lib.hid (HNS.out k hlt)
      have HME := Lib.hid (List.getElem_mem hlt)
      rw [HK.out] at HSTP
      generalize L[k] = ls at *
      obtain ⟨g3, n3, c3⟩ := sl
      unfold slV at hc2 HX
      have hk0 : (0 : Int) ≤ (k : Int) := by omega
      have hk1 : (k : Int) < (L.length : Int) := by omega
      clear hc hx hbl
      obtain ⟨A3, c3', hv3, r1, r2, _⟩ := id HX.out
      simp only [Value.slice.injEq] at hv3
      obtain ⟨rfl, rfl, rfl⟩ := hv3
      have HSK := Lib.hid (fun V (hb : Below wr.heap.size wr V) => HSN.out _ ls HME.out _ V (HX.out.below hb) hb.size)
      cases hq : decide (sz ls = ls)
      · rw [hq] at HSTP
        have HS2 : Hid (nt (k + 1) = nt k) := HSTP.out
        go_wp2_with fail
        refine wp_region_held_drew (S := fun w' => w'.cell? (ad.add k) = some (.slice g3 ls.length c3)) (by kernel_rfl) (by exact hc2) (fun hHeld => ?_)
        refine wpAnyH_take (i := 0) (oi := ⟨_, _, _, _, _, _⟩) (v := ?vap21999q1n0) rfl (by kernel_rfl) (by kernel_rfl) (by kernel_rfl) (fun _ _ _ h => h) (Or.inl ⟨by rfl, ?hap21999q1n0⟩) (by assumption) ?_
        case hap21999q1n0 => (intro w hSw; (try dsimp only at hSw); go_simp; try with_reducible rfl)
        try simp only [Act.put, List.setIfInBounds_toArray, List.set_cons_zero, List.set_cons_succ]
        refine wpAnyH_take (i := 1) (oi := ⟨_, _, _, _, _, _⟩) (v := ?vap21999q2n1) rfl (by kernel_rfl) (by kernel_rfl) (by kernel_rfl) (fun _ _ _ h => h) (Or.inl ⟨by rfl, ?hap21999q2n1⟩) (by assumption) ?_
        case hap21999q2n1 => (intro w hSw; (try dsimp only at hSw); go_simp; try with_reducible rfl)
        try simp only [Act.put, List.setIfInBounds_toArray, List.set_cons_zero, List.set_cons_succ]
        refine wpAnyH_take (i := 2) (oi := ⟨_, _, _, _, _, _⟩) (v := ?vap21999q3n2) rfl (by kernel_rfl) (by kernel_rfl) (by kernel_rfl) (fun _ _ _ h => h) (Or.inl ⟨by rfl, ?hap21999q3n2⟩) (by assumption) ?_
        case hap21999q3n2 => (intro w hSw; (try dsimp only at hSw); go_simp; try with_reducible rfl)
        try simp only [Act.put, List.setIfInBounds_toArray, List.set_cons_zero, List.set_cons_succ]
        refine wpAnyH_take (i := 3) (oi := ⟨_, _, _, _, _, _⟩) (v := ?vap21999q4n3) rfl (by kernel_rfl) (by kernel_rfl) (by kernel_rfl) (fun _ _ _ h => h) (Or.inl ⟨by rfl, ?hap21999q4n3⟩) (by assumption) ?_
        case hap21999q4n3 => (intro w hSw; (try dsimp only at hSw); go_simp; try with_reducible rfl)
        try simp only [Act.put, List.setIfInBounds_toArray, List.set_cons_zero, List.set_cons_succ]
        refine wpAnyH_take (i := 4) (oi := ⟨_, _, _, _, _, _⟩) (v := ?vap21999q5n4) rfl (by kernel_rfl) (by kernel_rfl) (by kernel_rfl) (fun _ _ _ h => h) (Or.inl ⟨by rfl, ?hap21999q5n4⟩) (by assumption) ?_
        case hap21999q5n4 => (intro w hSw; (try dsimp only at hSw); go_simp; try with_reducible rfl)
        try simp only [Act.put, List.setIfInBounds_toArray, List.set_cons_zero, List.set_cons_succ]
        refine wpAnyH_take (i := 5) (oi := ⟨_, _, _, _, _, _⟩) (v := ?vap21999q6n5) rfl (by kernel_rfl) (by kernel_rfl) (by kernel_rfl) (fun _ _ _ h => h) (Or.inl ⟨by rfl, ?hap21999q6n5⟩) (by assumption) ?_
        case hap21999q6n5 => (intro w hSw; (try dsimp only at hSw); go_simp; try with_reducible rfl)
        try simp only [Act.put, List.setIfInBounds_toArray, List.set_cons_zero, List.set_cons_succ]
        refine wpAnyH_take (i := 6) (oi := ⟨_, _, _, _, _, _⟩) (v := ?vap21999q7n6) rfl (by kernel_rfl) (by kernel_rfl) (by kernel_rfl) (fun _ _ _ h => h) (Or.inl ⟨by rfl, ?hap21999q7n6⟩) (by assumption) ?_
        case hap21999q7n6 => (intro w hSw; (try dsimp only at hSw); go_simp; try with_reducible rfl)
        try simp only [Act.put, List.setIfInBounds_toArray, List.set_cons_zero, List.set_cons_succ]
        refine wpAnyH_take (i := 8) (oi := ⟨_, _, _, _, _, _⟩) (v := ?vap21999q8n8) rfl (by kernel_rfl) (by kernel_rfl) (by kernel_rfl) (fun _ _ _ h => h) (Or.inl ⟨by rfl, ?hap21999q8n8⟩) (by assumption) ?_
        case hap21999q8n8 => (intro w hSw; (try dsimp only at hSw); go_simp; try with_reducible rfl)
        try simp only [Act.put, List.setIfInBounds_toArray, List.set_cons_zero, List.set_cons_succ]
        refine wpAnyH_take (i := 9) (oi := ⟨_, _, _, _, _, _⟩) (v := ?vap21999q9n9) rfl (by kernel_rfl) (by kernel_rfl) (by kernel_rfl) (fun _ _ _ h => h) (Or.inl ⟨by rfl, ?hap21999q9n9⟩) (by assumption) ?_
        case hap21999q9n9 => (intro w hSw; (try dsimp only at hSw); go_simp; try with_reducible rfl)
        try simp only [Act.put, List.setIfInBounds_toArray, List.set_cons_zero, List.set_cons_succ]
        refine wpAnyH_take (i := 10) (oi := ⟨_, _, _, _, _, _⟩) (v := ?vap21999q10n10) rfl (by kernel_rfl) (by kernel_rfl) (by kernel_rfl) (fun _ _ _ h => h) (Or.inl ⟨by rfl, ?hap21999q10n10⟩) (by assumption) ?_
        case hap21999q10n10 => (intro w hSw; (try dsimp only at hSw); go_simp; try with_reducible rfl)
        try simp only [Act.put, List.setIfInBounds_toArray, List.set_cons_zero, List.set_cons_succ]
        refine wpAnyH_take (i := 11) (oi := ⟨_, _, _, _, _, _⟩) (v := ?vap21999q11n11) rfl (by kernel_rfl) (by kernel_rfl) (by kernel_rfl) (fun _ _ _ h => h) (Or.inl ⟨by rfl, ?hap21999q11n11⟩) (by assumption) ?_
        case hap21999q11n11 => (intro w hSw; (try dsimp only at hSw); go_simp; try with_reducible rfl)
        try simp only [Act.put, List.setIfInBounds_toArray, List.set_cons_zero, List.set_cons_succ]
        refine wpAnyH_ready (rs := [7]) (by kernel_rfl) (by simp) ?_
        refine AllReadyH.cons (o := ⟨_, _, _, _, _, _⟩) rfl (fun K hK => ?_) AllReadyH.nil
        go_simp
        go_at_call 67
        refine (HSK.out _ (Below.refl _ _).drew).mono ?_
        rintro e w3 ⟨u3, rfl, ho3, hb3⟩
        have HBw3 : Hid (Below wr.heap.size wr w3) := (Below.refl wr.heap.size wr).drew.trans hb3
        have HB3 := Lib.hid (HB.out.trans (HBw3.out.mono HB.out.size))
        have hc3 : w3.cell? (ad.add k) = some (.slice g3 ls.length c3) := (HBw3.out.cell HBL.out).trans hc2
        have HSD := Lib.hid (specSameD_any u3 _ (sz ls) ls w3.heap.size w3 (ho3.rd okDomino) ((HX.out.below HBw3.out).more HBw3.out.size) (Nat.le_refl _))
        obtain ⟨A4, c4, hu3, _, _, _⟩ := ho3.rd okDomino
        subst hu3
        clear hb3 ho3
        refine hK.out _ _ (by first | exact hc4 | exact hc3) (fun hHeld => ?_)
        clear hK K
        try simp only [Act.put, List.setIfInBounds_toArray, List.set_cons_zero, List.set_cons_succ]
        refine wpAnyH_ready (rs := [12]) (by kernel_rfl) (by simp) ?_
        refine AllReadyH.cons (o := ⟨_, _, _, _, _, _⟩) rfl (fun K hK => ?_) AllReadyH.nil
        go_simp
        go_at_call 93
        refine HSD.out.mono ?_
        rintro e w4 ⟨rfl, hd4⟩
        have HB4 := Lib.hid (HB3.out.trans ((hd4.below w3.heap.size).mono HB3.out.size))
        have hc4 : w4.cell? (ad.add k) = some (.slice g3 ls.length c3) := ((hd4.below w3.heap.size).cell (Nat.lt_of_lt_of_le HBL.out HBw3.out.size)).trans hc3
        clear hd4
        rw [hq]
        refine hK.out _ _ (by first | exact hc4 | exact hc3) (fun hHeld => ?_)
        clear hK K
        try simp only [Act.put, List.setIfInBounds_toArray, List.set_cons_zero, List.set_cons_succ]
        refine wpAnyH_done (by kernel_rfl) ?_ _
        go_wp2_with fail
        go_roundw
        case rel => exact ⟨k + 1, by omega, by go_num, by rw [HS2.out], HB4⟩
        case measure => simp [intOf]; omega
      · rw [hq] at HSTP
        have HS2 : Hid (nt (k + 1) = nt k + 1) := HSTP.out
        go_wp2_with fail
        refine wp_region_held_drew (S := fun w' => w'.cell? (ad.add k) = some (.slice g3 ls.length c3)) (by kernel_rfl) (by exact hc2) (fun hHeld => ?_)
        refine wpAnyH_take (i := 0) (oi := ⟨_, _, _, _, _, _⟩) (v := ?vap22000q1n0) rfl (by kernel_rfl) (by kernel_rfl) (by kernel_rfl) (fun _ _ _ h => h) (Or.inl ⟨by rfl, ?hap22000q1n0⟩) (by assumption) ?_
        case hap22000q1n0 => (intro w hSw; (try dsimp only at hSw); go_simp; try with_reducible rfl)
        try simp only [Act.put, List.setIfInBounds_toArray, List.set_cons_zero, List.set_cons_succ]
        refine wpAnyH_take (i := 1) (oi := ⟨_, _, _, _, _, _⟩) (v := ?vap22000q2n1) rfl (by kernel_rfl) (by kernel_rfl) (by kernel_rfl) (fun _ _ _ h => h) (Or.inl ⟨by rfl, ?hap22000q2n1⟩) (by assumption) ?_
        case hap22000q2n1 => (intro w hSw; (try dsimp only at hSw); go_simp; try with_reducible rfl)
        try simp only [Act.put, List.setIfInBounds_toArray, List.set_cons_zero, List.set_cons_succ]
        refine wpAnyH_take (i := 2) (oi := ⟨_, _, _, _, _, _⟩) (v := ?vap22000q3n2) rfl (by kernel_rfl) (by kernel_rfl) (by kernel_rfl) (fun _ _ _ h => h) (Or.inl ⟨by rfl, ?hap22000q3n2⟩) (by assumption) ?_
        case hap22000q3n2 => (intro w hSw; (try dsimp only at hSw); go_simp; try with_reducible rfl)
        try simp only [Act.put, List.setIfInBounds_toArray, List.set_cons_zero, List.set_cons_succ]
        refine wpAnyH_take (i := 3) (oi := ⟨_, _, _, _, _, _⟩) (v := ?vap22000q4n3) rfl (by kernel_rfl) (by kernel_rfl) (by kernel_rfl) (fun _ _ _ h => h) (Or.inl ⟨by rfl, ?hap22000q4n3⟩) (by assumption) ?_
        case hap22000q4n3 => (intro w hSw; (try dsimp only at hSw); go_simp; try with_reducible rfl)
        try simp only [Act.put, List.setIfInBounds_toArray, List.set_cons_zero, List.set_cons_succ]
        refine wpAnyH_take (i := 4) (oi := ⟨_, _, _, _, _, _⟩) (v := ?vap22000q5n4) rfl (by kernel_rfl) (by kernel_rfl) (by kernel_rfl) (fun _ _ _ h => h) (Or.inl ⟨by rfl, ?hap22000q5n4⟩) (by assumption) ?_
        case hap22000q5n4 => (intro w hSw; (try dsimp only at hSw); go_simp; try with_reducible rfl)
        try simp only [Act.put, List.setIfInBounds_toArray, List.set_cons_zero, List.set_cons_succ]
        refine wpAnyH_take (i := 5) (oi := ⟨_, _, _, _, _, _⟩) (v := ?vap22000q6n5) rfl (by kernel_rfl) (by kernel_rfl) (by kernel_rfl) (fun _ _ _ h => h) (Or.inl ⟨by rfl, ?hap22000q6n5⟩) (by assumption) ?_
        case hap22000q6n5 => (intro w hSw; (try dsimp only at hSw); go_simp; try with_reducible rfl)
        try simp only [Act.put, List.setIfInBounds_toArray, List.set_cons_zero, List.set_cons_succ]
        refine wpAnyH_take (i := 6) (oi := ⟨_, _, _, _, _, _⟩) (v := ?vap22000q7n6) rfl (by kernel_rfl) (by kernel_rfl) (by kernel_rfl) (fun _ _ _ h => h) (Or.inl ⟨by rfl, ?hap22000q7n6⟩) (by assumption) ?_
        case hap22000q7n6 => (intro w hSw; (try dsimp only at hSw); go_simp; try with_reducible rfl)
        try simp only [Act.put, List.setIfInBounds_toArray, List.set_cons_zero, List.set_cons_succ]
        refine wpAnyH_take (i := 8) (oi := ⟨_, _, _, _, _, _⟩) (v := ?vap22000q8n8) rfl (by kernel_rfl) (by kernel_rfl) (by kernel_rfl) (fun _ _ _ h => h) (Or.inl ⟨by rfl, ?hap22000q8n8⟩) (by assumption) ?_
        case hap22000q8n8 => (intro w hSw; (try dsimp only at hSw); go_simp; try with_reducible rfl)
        try simp only [Act.put, List.setIfInBounds_toArray, List.set_cons_zero, List.set_cons_succ]
        refine wpAnyH_take (i := 9) (oi := ⟨_, _, _, _, _, _⟩) (v := ?vap22000q9n9) rfl (by kernel_rfl) (by kernel_rfl) (by kernel_rfl) (fun _ _ _ h => h) (Or.inl ⟨by rfl, ?hap22000q9n9⟩) (by assumption) ?_
        case hap22000q9n9 => (intro w hSw; (try dsimp only at hSw); go_simp; try with_reducible rfl)
        try simp only [Act.put, List.setIfInBounds_toArray, List.set_cons_zero, List.set_cons_succ]
        refine wpAnyH_take (i := 10) (oi := ⟨_, _, _, _, _, _⟩) (v := ?vap22000q10n10) rfl (by kernel_rfl) (by kernel_rfl) (by kernel_rfl) (fun _ _ _ h => h) (Or.inl ⟨by rfl, ?hap22000q10n10⟩) (by assumption) ?_
        case hap22000q10n10 => (intro w hSw; (try dsimp only at hSw); go_simp; try with_reducible rfl)
        try simp only [Act.put, List.setIfInBounds_toArray, List.set_cons_zero, List.set_cons_succ]
        refine wpAnyH_take (i := 11) (oi := ⟨_, _, _, _, _, _⟩) (v := ?vap22000q11n11) rfl (by kernel_rfl) (by kernel_rfl) (by kernel_rfl) (fun _ _ _ h => h) (Or.inl ⟨by rfl, ?hap22000q11n11⟩) (by assumption) ?_
        case hap22000q11n11 => (intro w hSw; (try dsimp only at hSw); go_simp; try with_reducible rfl)
        try simp only [Act.put, List.setIfInBounds_toArray, List.set_cons_zero, List.set_cons_succ]
        refine wpAnyH_ready (rs := [7]) (by kernel_rfl) (by simp) ?_
        refine AllReadyH.cons (o := ⟨_, _, _, _, _, _⟩) rfl (fun K hK => ?_) AllReadyH.nil
        go_simp
        go_at_call 67
        refine (HSK.out _ (Below.refl _ _).drew).mono ?_
        rintro e w3 ⟨u3, rfl, ho3, hb3⟩
        have HBw3 : Hid (Below wr.heap.size wr w3) := (Below.refl wr.heap.size wr).drew.trans hb3
        have HB3 := Lib.hid (HB.out.trans (HBw3.out.mono HB.out.size))
        have hc3 : w3.cell? (ad.add k) = some (.slice g3 ls.length c3) := (HBw3.out.cell HBL.out).trans hc2
        have HSD := Lib.hid (specSameD_any u3 _ (sz ls) ls w3.heap.size w3 (ho3.rd okDomino) ((HX.out.below HBw3.out).more HBw3.out.size) (Nat.le_refl _))
        obtain ⟨A4, c4, hu3, _, _, _⟩ := ho3.rd okDomino
        subst hu3
        clear hb3 ho3
        refine hK.out _ _ (by first | exact hc4 | exact hc3) (fun hHeld => ?_)
        clear hK K
        try simp only [Act.put, List.setIfInBounds_toArray, List.set_cons_zero, List.set_cons_succ]
        refine wpAnyH_ready (rs := [12]) (by kernel_rfl) (by simp) ?_
        refine AllReadyH.cons (o := ⟨_, _, _, _, _, _⟩) rfl (fun K hK => ?_) AllReadyH.nil
        go_simp
        go_at_call 93
        refine HSD.out.mono ?_
        rintro e w4 ⟨rfl, hd4⟩
        have HB4 := Lib.hid (HB3.out.trans ((hd4.below w3.heap.size).mono HB3.out.size))
        have hc4 : w4.cell? (ad.add k) = some (.slice g3 ls.length c3) := ((hd4.below w3.heap.size).cell (Nat.lt_of_lt_of_le HBL.out HBw3.out.size)).trans hc3
        clear hd4
        rw [hq]
        refine hK.out _ _ (by first | exact hc4 | exact hc3) (fun hHeld => ?_)
        clear hK K
        try simp only [Act.put, List.setIfInBounds_toArray, List.set_cons_zero, List.set_cons_succ]
        refine wpAnyH_done (by kernel_rfl) ?_ _
        go_wp2_with fail
        go_roundw
        case rel => exact ⟨k + 1, by omega, by go_num, by rw [HS2.out]; go_num, HB4⟩
        case measure => simp [intOf]; omega
    · obtain rfl : k = L.length := by omega
      have ht : decide ((L.length : Int) < (L.length : Int)) = false := by simp
      go_wp2_with fail
      go_ret
      exact ⟨rfl, HB2.out.trans (HB.out.mono HB2.out.size)⟩

set_option maxRecDepth 100000 in
set_option maxHeartbeats 4000000 in
theorem specCountFixed_yes4 (s : Nat) (hs2 : s = 4) (tn : Nat) (htn : tn ≤ 3) (m : Bool) (w : World) :
    Calls Try.prog 31 #[.int .i64 (s : Int), .int .i64 (tn : Int), .bool m] w fun e w' => e = .returned (.int .i64 (fixN s tn m : Nat)) ∧ Below w.heap.size w w' := by
  have hs : s = 2 ∨ s = 4 := by omega
  obtain ⟨hb1, hb2, hb3⟩ := fix_at hs
  have HFN : Hid (fixN s tn m = numTo (fixB s tn m) (allT s) (allT s).length) := rfl
  rw [HFN.out]
  have HLT := Lib.hid (specListT_sq s hs)
  have HRC := Lib.hid (specRectangle_yes s s (by omega) (by omega))
  have HSN := Lib.hid (fun v ls hl B w h hB => lmovS s hs tn htn m v ls hl B w h hB)
  have HFB : Hid (∀ ls, fixB s tn m ls = decide (seenZ s ls tn m = ls)) := fun _ => rfl
  generalize rectZ s s = rz at *
  generalize allT s = L at *
  obtain ⟨p, HP⟩ : ∃ p, Hid (fixB s tn m = p) := ⟨_, rfl⟩
  rw [HP.out] at HFB ⊢
  obtain ⟨sz, HSZ⟩ : ∃ sz, Hid ((fun ls => seenZ (s : Int) ls tn m) = sz) := ⟨_, rfl⟩
  have hsz : ∀ ls, seenZ (s : Int) ls tn m = sz ls := fun ls => by rw [← HSZ.out]
  simp only [hsz, Hid] at HSN HFB
  replace HSN := Lib.hid HSN; replace HFB := Lib.hid HFB
  have HNS := Lib.hid (numTo_step p L)
  have HNL := Lib.hid (numTo_le p L)
  have HN0 : Hid (numTo p L 0 = 0) := rfl
  obtain ⟨nt, HNT⟩ : ∃ nt, Hid (nt = numTo p L) := ⟨_, rfl⟩
  rw [← HNT.out] at HNS HNL HN0 ⊢
  clear HFN HP HSZ hsz HNT hb1 hb2
  have hc2' : ((s : Int) != 2) = true := by rw [hs2]; rfl
  have hc4' : ((s : Int) != 4) = false := by rw [hs2]; rfl
  have hin : inB (tn : Int) 0 3 = true := by rw [inB_iff]; omega
  clear hs2 hs
  go_enter Try.func31, Try.ntmps31
  go_wp2_with fail
  refine (l01In_any _ _ _ _).mono ?_
  rintro e w0 ⟨rfl, rfl⟩
  rw [hin]
  go_wp2_with fail
  refine (HRC.out _).mono ?_
  rintro e w1 ⟨u1, rfl, hr1, hb1⟩
  have HB1 := Lib.hid hb1
  have HL := Lib.hid (HLT.out u1 _ w1 hr1 (Nat.le_refl _))
  clear hb1 hr1
  go_wp2_with fail
  refine HL.out.mono ?_
  rintro e w2 ⟨v2, hi2, rfl, hN2⟩
  have HB2 := Lib.hid (HB1.out.trans (hN2.choose_spec.1.2.1.mono HB1.out.size))
  obtain ⟨A2, c2, rfl, q1, q2, G⟩ := hN2.rdDL.open_
  unfold maxLen at q2
  have HG := Lib.hid G
  clear hN2 HL G
  go_wp2_with fail
  go_loopw [7, 9] (fun n i wr => ∃ k : Nat, k ≤ L.length ∧ i = .int .i64 (k : Int) ∧ n = .int .i64 (nt k : Nat) ∧ Hid (Below w2.heap.size w2 wr)) (fun _ i _ => L.length - (intOf i).toNat)
  case atStart => exact ⟨0, Nat.zero_le _, rfl, by rw [HN0.out]; rfl, Below.refl _ _⟩
  case round =>
    obtain ⟨k, hk, rfl, rfl, HB⟩ := hrel
    have hnk := HNL.out k
    by_cases hlt : k < L.length
    · have ht : decide ((k : Int) < (L.length : Int)) = true := by simp only [decide_eq_true_eq]; omega
      obtain ⟨ad, sl, rfl, hbl, hc, hx⟩ := HG.out k hlt
      have hc2 : wr.cell? (ad.add k) = some (slV sl) := (HB.out.cell (by rw [addBlock]; exact hbl)).trans hc
      have HBL : Hid ((ad.add k).block < wr.heap.size) := by unfold Hid; rw [addBlock]; exact Nat.lt_of_lt_of_le hbl HB.out.size
      have HX := Lib.hid ((hx.below HB.out).more HB.out.size)
      have HK := Lib.hid (HFB.out L[k])
      have HSTP := Lib.hid (HNS.out k hlt)
      have HME := Lib.hid (List.getElem_mem hlt)
      rw [HK.out] at HSTP
      generalize L[k] = ls at *
      obtain ⟨g3, n3, c3⟩ := sl
      unfold slV at hc2 HX
      have hk0 : (0 : Int) ≤ (k : Int) := by omega
      have hk1 : (k : Int) < (L.length : Int) := by omega
      clear hc hx hbl
      obtain ⟨A3, c3', hv3, r1, r2, _⟩ := id HX.out
      simp only [Value.slice.injEq] at hv3
      obtain ⟨rfl, rfl, rfl⟩ := hv3
      have HSK := Lib.hid (fun V (hb : Below wr.heap.size wr V) => HSN.out _ ls HME.out _ V (HX.out.below hb) hb.size)
      cases hq : decide (sz ls = ls)
      · rw [hq] at HSTP
        have HS2 : Hid (nt (k + 1) = nt k) := HSTP.out
        go_wp2_with fail
        refine wp_region_held_drew (S := fun w' => w'.cell? (ad.add k) = some (.slice g3 ls.length c3)) (by kernel_rfl) (by exact hc2) (fun hHeld => ?_)
        refine wpAnyH_take (i := 0) (oi := ⟨_, _, _, _, _, _⟩) (v := ?vap22001q1n0) rfl (by kernel_rfl) (by kernel_rfl) (by kernel_rfl) (fun _ _ _ h => h) (Or.inl ⟨by rfl, ?hap22001q1n0⟩) (by assumption) ?_
        case hap22001q1n0 => (intro w hSw; (try dsimp only at hSw); go_simp; try with_reducible rfl)
        try simp only [Act.put, List.setIfInBounds_toArray, List.set_cons_zero, List.set_cons_succ]
        refine wpAnyH_take (i := 1) (oi := ⟨_, _, _, _, _, _⟩) (v := ?vap22001q2n1) rfl (by kernel_rfl) (by kernel_rfl) (by kernel_rfl) (fun _ _ _ h => h) (Or.inl ⟨by rfl, ?hap22001q2n1⟩) (by assumption) ?_
        case hap22001q2n1 => (intro w hSw; (try dsimp only at hSw); go_simp; try with_reducible rfl)
        try simp only [Act.put, List.setIfInBounds_toArray, List.set_cons_zero, List.set_cons_succ]
        refine wpAnyH_take (i := 2) (oi := ⟨_, _, _, _, _, _⟩) (v := ?vap22001q3n2) rfl (by kernel_rfl) (by kernel_rfl) (by kernel_rfl) (fun _ _ _ h => h) (Or.inl ⟨by rfl, ?hap22001q3n2⟩) (by assumption) ?_
        case hap22001q3n2 => (intro w hSw; (try dsimp only at hSw); go_simp; try with_reducible rfl)
        try simp only [Act.put, List.setIfInBounds_toArray, List.set_cons_zero, List.set_cons_succ]
        refine wpAnyH_take (i := 3) (oi := ⟨_, _, _, _, _, _⟩) (v := ?vap22001q4n3) rfl (by kernel_rfl) (by kernel_rfl) (by kernel_rfl) (fun _ _ _ h => h) (Or.inl ⟨by rfl, ?hap22001q4n3⟩) (by assumption) ?_
        case hap22001q4n3 => (intro w hSw; (try dsimp only at hSw); go_simp; try with_reducible rfl)
        try simp only [Act.put, List.setIfInBounds_toArray, List.set_cons_zero, List.set_cons_succ]
        refine wpAnyH_take (i := 4) (oi := ⟨_, _, _, _, _, _⟩) (v := ?vap22001q5n4) rfl (by kernel_rfl) (by kernel_rfl) (by kernel_rfl) (fun _ _ _ h => h) (Or.inl ⟨by rfl, ?hap22001q5n4⟩) (by assumption) ?_
        case hap22001q5n4 => (intro w hSw; (try dsimp only at hSw); go_simp; try with_reducible rfl)
        try simp only [Act.put, List.setIfInBounds_toArray, List.set_cons_zero, List.set_cons_succ]
        refine wpAnyH_take (i := 5) (oi := ⟨_, _, _, _, _, _⟩) (v := ?vap22001q6n5) rfl (by kernel_rfl) (by kernel_rfl) (by kernel_rfl) (fun _ _ _ h => h) (Or.inl ⟨by rfl, ?hap22001q6n5⟩) (by assumption) ?_
        case hap22001q6n5 => (intro w hSw; (try dsimp only at hSw); go_simp; try with_reducible rfl)
        try simp only [Act.put, List.setIfInBounds_toArray, List.set_cons_zero, List.set_cons_succ]
        refine wpAnyH_take (i := 6) (oi := ⟨_, _, _, _, _, _⟩) (v := ?vap22001q7n6) rfl (by kernel_rfl) (by kernel_rfl) (by kernel_rfl) (fun _ _ _ h => h) (Or.inl ⟨by rfl, ?hap22001q7n6⟩) (by assumption) ?_
        case hap22001q7n6 => (intro w hSw; (try dsimp only at hSw); go_simp; try with_reducible rfl)
        try simp only [Act.put, List.setIfInBounds_toArray, List.set_cons_zero, List.set_cons_succ]
        refine wpAnyH_take (i := 8) (oi := ⟨_, _, _, _, _, _⟩) (v := ?vap22001q8n8) rfl (by kernel_rfl) (by kernel_rfl) (by kernel_rfl) (fun _ _ _ h => h) (Or.inl ⟨by rfl, ?hap22001q8n8⟩) (by assumption) ?_
        case hap22001q8n8 => (intro w hSw; (try dsimp only at hSw); go_simp; try with_reducible rfl)
        try simp only [Act.put, List.setIfInBounds_toArray, List.set_cons_zero, List.set_cons_succ]
        refine wpAnyH_take (i := 9) (oi := ⟨_, _, _, _, _, _⟩) (v := ?vap22001q9n9) rfl (by kernel_rfl) (by kernel_rfl) (by kernel_rfl) (fun _ _ _ h => h) (Or.inl ⟨by rfl, ?hap22001q9n9⟩) (by assumption) ?_
        case hap22001q9n9 => (intro w hSw; (try dsimp only at hSw); go_simp; try with_reducible rfl)
        try simp only [Act.put, List.setIfInBounds_toArray, List.set_cons_zero, List.set_cons_succ]
        refine wpAnyH_take (i := 10) (oi := ⟨_, _, _, _, _, _⟩) (v := ?vap22001q10n10) rfl (by kernel_rfl) (by kernel_rfl) (by kernel_rfl) (fun _ _ _ h => h) (Or.inl ⟨by rfl, ?hap22001q10n10⟩) (by assumption) ?_
        case hap22001q10n10 => (intro w hSw; (try dsimp only at hSw); go_simp; try with_reducible rfl)
        try simp only [Act.put, List.setIfInBounds_toArray, List.set_cons_zero, List.set_cons_succ]
        refine wpAnyH_take (i := 11) (oi := ⟨_, _, _, _, _, _⟩) (v := ?vap22001q11n11) rfl (by kernel_rfl) (by kernel_rfl) (by kernel_rfl) (fun _ _ _ h => h) (Or.inl ⟨by rfl, ?hap22001q11n11⟩) (by assumption) ?_
        case hap22001q11n11 => (intro w hSw; (try dsimp only at hSw); go_simp; try with_reducible rfl)
        try simp only [Act.put, List.setIfInBounds_toArray, List.set_cons_zero, List.set_cons_succ]
        refine wpAnyH_ready (rs := [7]) (by kernel_rfl) (by simp) ?_
        refine AllReadyH.cons (o := ⟨_, _, _, _, _, _⟩) rfl (fun K hK => ?_) AllReadyH.nil
        go_simp
        go_at_call 67
        refine (HSK.out _ (Below.refl _ _).drew).mono ?_
        rintro e w3 ⟨u3, rfl, ho3, hb3⟩
        have HBw3 : Hid (Below wr.heap.size wr w3) := (Below.refl wr.heap.size wr).drew.trans hb3
        have HB3 := Lib.hid (HB.out.trans (HBw3.out.mono HB.out.size))
        have hc3 : w3.cell? (ad.add k) = some (.slice g3 ls.length c3) := (HBw3.out.cell HBL.out).trans hc2
        have HSD := Lib.hid (specSameD_any u3 _ (sz ls) ls w3.heap.size w3 (ho3.rd okDomino) ((HX.out.below HBw3.out).more HBw3.out.size) (Nat.le_refl _))
        obtain ⟨A4, c4, hu3, _, _, _⟩ := ho3.rd okDomino
        subst hu3
        clear hb3 ho3
        refine hK.out _ _ (by first | exact hc4 | exact hc3) (fun hHeld => ?_)
        clear hK K
        try simp only [Act.put, List.setIfInBounds_toArray, List.set_cons_zero, List.set_cons_succ]
        refine wpAnyH_ready (rs := [12]) (by kernel_rfl) (by simp) ?_
        refine AllReadyH.cons (o := ⟨_, _, _, _, _, _⟩) rfl (fun K hK => ?_) AllReadyH.nil
        go_simp
        go_at_call 93
        refine HSD.out.mono ?_
        rintro e w4 ⟨rfl, hd4⟩
        have HB4 := Lib.hid (HB3.out.trans ((hd4.below w3.heap.size).mono HB3.out.size))
        have hc4 : w4.cell? (ad.add k) = some (.slice g3 ls.length c3) := ((hd4.below w3.heap.size).cell (Nat.lt_of_lt_of_le HBL.out HBw3.out.size)).trans hc3
        clear hd4
        rw [hq]
        refine hK.out _ _ (by first | exact hc4 | exact hc3) (fun hHeld => ?_)
        clear hK K
        try simp only [Act.put, List.setIfInBounds_toArray, List.set_cons_zero, List.set_cons_succ]
        refine wpAnyH_done (by kernel_rfl) ?_ _
        go_wp2_with fail
        go_roundw
        case rel => exact ⟨k + 1, by omega, by go_num, by rw [HS2.out], HB4⟩
        case measure => simp [intOf]; omega
      · rw [hq] at HSTP
        have HS2 : Hid (nt (k + 1) = nt k + 1) := HSTP.out
        go_wp2_with fail
        refine wp_region_held_drew (S := fun w' => w'.cell? (ad.add k) = some (.slice g3 ls.length c3)) (by kernel_rfl) (by exact hc2) (fun hHeld => ?_)
        refine wpAnyH_take (i := 0) (oi := ⟨_, _, _, _, _, _⟩) (v := ?vap22002q1n0) rfl (by kernel_rfl) (by kernel_rfl) (by kernel_rfl) (fun _ _ _ h => h) (Or.inl ⟨by rfl, ?hap22002q1n0⟩) (by assumption) ?_
        case hap22002q1n0 => (intro w hSw; (try dsimp only at hSw); go_simp; try with_reducible rfl)
        try simp only [Act.put, List.setIfInBounds_toArray, List.set_cons_zero, List.set_cons_succ]
        refine wpAnyH_take (i := 1) (oi := ⟨_, _, _, _, _, _⟩) (v := ?vap22002q2n1) rfl (by kernel_rfl) (by kernel_rfl) (by kernel_rfl) (fun _ _ _ h => h) (Or.inl ⟨by rfl, ?hap22002q2n1⟩) (by assumption) ?_
        case hap22002q2n1 => (intro w hSw; (try dsimp only at hSw); go_simp; try with_reducible rfl)
        try simp only [Act.put, List.setIfInBounds_toArray, List.set_cons_zero, List.set_cons_succ]
        refine wpAnyH_take (i := 2) (oi := ⟨_, _, _, _, _, _⟩) (v := ?vap22002q3n2) rfl (by kernel_rfl) (by kernel_rfl) (by kernel_rfl) (fun _ _ _ h => h) (Or.inl ⟨by rfl, ?hap22002q3n2⟩) (by assumption) ?_
        case hap22002q3n2 => (intro w hSw; (try dsimp only at hSw); go_simp; try with_reducible rfl)
        try simp only [Act.put, List.setIfInBounds_toArray, List.set_cons_zero, List.set_cons_succ]
        refine wpAnyH_take (i := 3) (oi := ⟨_, _, _, _, _, _⟩) (v := ?vap22002q4n3) rfl (by kernel_rfl) (by kernel_rfl) (by kernel_rfl) (fun _ _ _ h => h) (Or.inl ⟨by rfl, ?hap22002q4n3⟩) (by assumption) ?_
        case hap22002q4n3 => (intro w hSw; (try dsimp only at hSw); go_simp; try with_reducible rfl)
        try simp only [Act.put, List.setIfInBounds_toArray, List.set_cons_zero, List.set_cons_succ]
        refine wpAnyH_take (i := 4) (oi := ⟨_, _, _, _, _, _⟩) (v := ?vap22002q5n4) rfl (by kernel_rfl) (by kernel_rfl) (by kernel_rfl) (fun _ _ _ h => h) (Or.inl ⟨by rfl, ?hap22002q5n4⟩) (by assumption) ?_
        case hap22002q5n4 => (intro w hSw; (try dsimp only at hSw); go_simp; try with_reducible rfl)
        try simp only [Act.put, List.setIfInBounds_toArray, List.set_cons_zero, List.set_cons_succ]
        refine wpAnyH_take (i := 5) (oi := ⟨_, _, _, _, _, _⟩) (v := ?vap22002q6n5) rfl (by kernel_rfl) (by kernel_rfl) (by kernel_rfl) (fun _ _ _ h => h) (Or.inl ⟨by rfl, ?hap22002q6n5⟩) (by assumption) ?_
        case hap22002q6n5 => (intro w hSw; (try dsimp only at hSw); go_simp; try with_reducible rfl)
        try simp only [Act.put, List.setIfInBounds_toArray, List.set_cons_zero, List.set_cons_succ]
        refine wpAnyH_take (i := 6) (oi := ⟨_, _, _, _, _, _⟩) (v := ?vap22002q7n6) rfl (by kernel_rfl) (by kernel_rfl) (by kernel_rfl) (fun _ _ _ h => h) (Or.inl ⟨by rfl, ?hap22002q7n6⟩) (by assumption) ?_
        case hap22002q7n6 => (intro w hSw; (try dsimp only at hSw); go_simp; try with_reducible rfl)
        try simp only [Act.put, List.setIfInBounds_toArray, List.set_cons_zero, List.set_cons_succ]
        refine wpAnyH_take (i := 8) (oi := ⟨_, _, _, _, _, _⟩) (v := ?vap22002q8n8) rfl (by kernel_rfl) (by kernel_rfl) (by kernel_rfl) (fun _ _ _ h => h) (Or.inl ⟨by rfl, ?hap22002q8n8⟩) (by assumption) ?_
        case hap22002q8n8 => (intro w hSw; (try dsimp only at hSw); go_simp; try with_reducible rfl)
        try simp only [Act.put, List.setIfInBounds_toArray, List.set_cons_zero, List.set_cons_succ]
        refine wpAnyH_take (i := 9) (oi := ⟨_, _, _, _, _, _⟩) (v := ?vap22002q9n9) rfl (by kernel_rfl) (by kernel_rfl) (by kernel_rfl) (fun _ _ _ h => h) (Or.inl ⟨by rfl, ?hap22002q9n9⟩) (by assumption) ?_
        case hap22002q9n9 => (intro w hSw; (try dsimp only at hSw); go_simp; try with_reducible rfl)
        try simp only [Act.put, List.setIfInBounds_toArray, List.set_cons_zero, List.set_cons_succ]
        refine wpAnyH_take (i := 10) (oi := ⟨_, _, _, _, _, _⟩) (v := ?vap22002q10n10) rfl (by kernel_rfl) (by kernel_rfl) (by kernel_rfl) (fun _ _ _ h => h) (Or.inl ⟨by rfl, ?hap22002q10n10⟩) (by assumption) ?_
        case hap22002q10n10 => (intro w hSw; (try dsimp only at hSw); go_simp; try with_reducible rfl)
        try simp only [Act.put, List.setIfInBounds_toArray, List.set_cons_zero, List.set_cons_succ]
        refine wpAnyH_take (i := 11) (oi := ⟨_, _, _, _, _, _⟩) (v := ?vap22002q11n11) rfl (by kernel_rfl) (by kernel_rfl) (by kernel_rfl) (fun _ _ _ h => h) (Or.inl ⟨by rfl, ?hap22002q11n11⟩) (by assumption) ?_
        case hap22002q11n11 => (intro w hSw; (try dsimp only at hSw); go_simp; try with_reducible rfl)
        try simp only [Act.put, List.setIfInBounds_toArray, List.set_cons_zero, List.set_cons_succ]
        refine wpAnyH_ready (rs := [7]) (by kernel_rfl) (by simp) ?_
        refine AllReadyH.cons (o := ⟨_, _, _, _, _, _⟩) rfl (fun K hK => ?_) AllReadyH.nil
        go_simp
        go_at_call 67
        refine (HSK.out _ (Below.refl _ _).drew).mono ?_
        rintro e w3 ⟨u3, rfl, ho3, hb3⟩
        have HBw3 : Hid (Below wr.heap.size wr w3) := (Below.refl wr.heap.size wr).drew.trans hb3
        have HB3 := Lib.hid (HB.out.trans (HBw3.out.mono HB.out.size))
        have hc3 : w3.cell? (ad.add k) = some (.slice g3 ls.length c3) := (HBw3.out.cell HBL.out).trans hc2
        have HSD := Lib.hid (specSameD_any u3 _ (sz ls) ls w3.heap.size w3 (ho3.rd okDomino) ((HX.out.below HBw3.out).more HBw3.out.size) (Nat.le_refl _))
        obtain ⟨A4, c4, hu3, _, _, _⟩ := ho3.rd okDomino
        subst hu3
        clear hb3 ho3
        refine hK.out _ _ (by first | exact hc4 | exact hc3) (fun hHeld => ?_)
        clear hK K
        try simp only [Act.put, List.setIfInBounds_toArray, List.set_cons_zero, List.set_cons_succ]
        refine wpAnyH_ready (rs := [12]) (by kernel_rfl) (by simp) ?_
        refine AllReadyH.cons (o := ⟨_, _, _, _, _, _⟩) rfl (fun K hK => ?_) AllReadyH.nil
        go_simp
        go_at_call 93
        refine HSD.out.mono ?_
        rintro e w4 ⟨rfl, hd4⟩
        have HB4 := Lib.hid (HB3.out.trans ((hd4.below w3.heap.size).mono HB3.out.size))
        have hc4 : w4.cell? (ad.add k) = some (.slice g3 ls.length c3) := ((hd4.below w3.heap.size).cell (Nat.lt_of_lt_of_le HBL.out HBw3.out.size)).trans hc3
        clear hd4
        rw [hq]
        refine hK.out _ _ (by first | exact hc4 | exact hc3) (fun hHeld => ?_)
        clear hK K
        try simp only [Act.put, List.setIfInBounds_toArray, List.set_cons_zero, List.set_cons_succ]
        refine wpAnyH_done (by kernel_rfl) ?_ _
        go_wp2_with fail
        go_roundw
        case rel => exact ⟨k + 1, by omega, by go_num, by rw [HS2.out]; go_num, HB4⟩
        case measure => simp [intOf]; omega
    · obtain rfl : k = L.length := by omega
      have ht : decide ((L.length : Int) < (L.length : Int)) = false := by simp
      go_wp2_with fail
      go_ret
      exact ⟨rfl, HB2.out.trans (HB.out.mono HB2.out.size)⟩
end Go.Proofs.Ytehnbalbpfmijaa

namespace Go.Proofs.Ytehnbalbpfmijaa
open Go.RowKit
set_option linter.unusedVariables false

/-- What CountFixed returns. -/
def cfixZ (a tn : Int) (m : Bool) : Int := if (a = 2 ∨ a = 4) ∧ inB tn 0 3 = true then (fixN a.toNat tn.toNat m : Nat) else -1

set_option maxRecDepth 100000 in
theorem CountFixed_any (a tn : Int) (m : Bool) (w : World) :
    Calls Try.prog 32 #[.int .i64 a, .int .i64 tn, .bool m] w fun e w' => e = .returned (.int .i64 (cfixZ a tn m)) ∧ Below w.heap.size w w' := by
  have yes : (a = 2 ∨ a = 4) → inB tn 0 3 = true → Calls Try.prog 32 #[.int .i64 a, .int .i64 tn, .bool m] w fun e w' => e = .returned (.int .i64 (cfixZ a tn m)) ∧ Below w.heap.size w w' := by
    intro h1 h2
    have e0 : cfixZ a tn m = (fixN a.toNat tn.toNat m : Nat) := by unfold cfixZ; rw [if_pos ⟨h1, h2⟩]
    rw [e0]
    rw [inB_iff] at h2
    obtain ⟨s, rfl⟩ := Int.eq_ofNat_of_zero_le (show 0 ≤ a by omega)
    obtain ⟨k, rfl⟩ := Int.eq_ofNat_of_zero_le (show 0 ≤ tn by omega)
    rw [Int.toNat_natCast, Int.toNat_natCast]
    rcases (show s = 2 ∨ s = 4 by omega) with hs | hs
    · exact CountFixed_yes2 s hs k (by omega) m w
    · exact CountFixed_yes4 s hs k (by omega) m w
  by_cases h2 : a = 2
  · cases hin : inB tn 0 3
    · have e0 : cfixZ a tn m = -1 := by unfold cfixZ; rw [if_neg (by rw [hin]; simp)]
      rw [e0]
      have f2 : (a != 2) = false := by rw [h2]; rfl
      clear h2 e0 yes
      go_enter Try.func32, Try.ntmps32
      go_wp2_with fail
      refine (within_any _ _ _ _).mono ?_
      rintro e w0 ⟨rfl, rfl⟩
      rw [hin]
      go_wp2_with fail
      go_ret
      exact ⟨rfl, Below.refl _ _⟩  
    · exact yes (.inl h2) hin
  · have f2 : (a != 2) = true := by simp [h2]
    by_cases h4 : a = 4
    · cases hin : inB tn 0 3
      · have e0 : cfixZ a tn m = -1 := by unfold cfixZ; rw [if_neg (by rw [hin]; simp)]
        rw [e0]
        have f4 : (a != 4) = false := by rw [h4]; rfl
        clear h2 h4 e0 yes
        go_enter Try.func32, Try.ntmps32
        go_wp2_with fail
        refine (within_any _ _ _ _).mono ?_
        rintro e w0 ⟨rfl, rfl⟩
        rw [hin]
        go_wp2_with fail
        go_ret
        exact ⟨rfl, Below.refl _ _⟩  
      · exact yes (.inr h4) hin
    · have e0 : cfixZ a tn m = -1 := by unfold cfixZ; rw [if_neg (by rintro ⟨h | h, _⟩ <;> contradiction)]
      rw [e0]
      have f4 : (a != 4) = true := by simp [h4]
      clear h2 h4 e0 yes
      go_enter Try.func32, Try.ntmps32
      go_wp2_with fail
      go_ret
      exact ⟨rfl, Below.refl _ _⟩

set_option maxRecDepth 100000 in
theorem specCountFixed_any (a tn : Int) (m : Bool) (w : World) :
    Calls Try.prog 31 #[.int .i64 a, .int .i64 tn, .bool m] w fun e w' => e = .returned (.int .i64 (cfixZ a tn m)) ∧ Below w.heap.size w w' := by
  have yes : (a = 2 ∨ a = 4) → inB tn 0 3 = true → Calls Try.prog 31 #[.int .i64 a, .int .i64 tn, .bool m] w fun e w' => e = .returned (.int .i64 (cfixZ a tn m)) ∧ Below w.heap.size w w' := by
    intro h1 h2
    have e0 : cfixZ a tn m = (fixN a.toNat tn.toNat m : Nat) := by unfold cfixZ; rw [if_pos ⟨h1, h2⟩]
    rw [e0]
    rw [inB_iff] at h2
    obtain ⟨s, rfl⟩ := Int.eq_ofNat_of_zero_le (show 0 ≤ a by omega)
    obtain ⟨k, rfl⟩ := Int.eq_ofNat_of_zero_le (show 0 ≤ tn by omega)
    rw [Int.toNat_natCast, Int.toNat_natCast]
    rcases (show s = 2 ∨ s = 4 by omega) with hs | hs
    · exact specCountFixed_yes2 s hs k (by omega) m w
    · exact specCountFixed_yes4 s hs k (by omega) m w
  by_cases h2 : a = 2
  · cases hin : inB tn 0 3
    · have e0 : cfixZ a tn m = -1 := by unfold cfixZ; rw [if_neg (by rw [hin]; simp)]
      rw [e0]
      have f2 : (a != 2) = false := by rw [h2]; rfl
      clear h2 e0 yes
      go_enter Try.func31, Try.ntmps31
      go_wp2_with fail
      refine (l01In_any _ _ _ _).mono ?_
      rintro e w0 ⟨rfl, rfl⟩
      rw [hin]
      go_wp2_with fail
      go_ret
      exact ⟨rfl, Below.refl _ _⟩  
    · exact yes (.inl h2) hin
  · have f2 : (a != 2) = true := by simp [h2]
    by_cases h4 : a = 4
    · cases hin : inB tn 0 3
      · have e0 : cfixZ a tn m = -1 := by unfold cfixZ; rw [if_neg (by rw [hin]; simp)]
        rw [e0]
        have f4 : (a != 4) = false := by rw [h4]; rfl
        clear h2 h4 e0 yes
        go_enter Try.func31, Try.ntmps31
        go_wp2_with fail
        refine (l01In_any _ _ _ _).mono ?_
        rintro e w0 ⟨rfl, rfl⟩
        rw [hin]
        go_wp2_with fail
        go_ret
        exact ⟨rfl, Below.refl _ _⟩  
      · exact yes (.inr h4) hin
    · have e0 : cfixZ a tn m = -1 := by unfold cfixZ; rw [if_neg (by rintro ⟨h | h, _⟩ <;> contradiction)]
      rw [e0]
      have f4 : (a != 4) = true := by simp [h4]
      clear h2 h4 e0 yes
      go_enter Try.func31, Try.ntmps31
      go_wp2_with fail
      go_ret
      exact ⟨rfl, Below.refl _ _⟩
end Go.Proofs.Ytehnbalbpfmijaa

namespace Go.Proofs.Ytehnbalbpfmijaa
open Go.RowKit

set_option maxRecDepth 100000 in
set_option maxHeartbeats 8000000 in
theorem walkCountFixed (a0 : Int) (_ : (Lit.int .i64 a0).wf = true) (a1 : Int) (_ : (Lit.int .i64 a1).wf = true) (a2 : Bool) (w : World) :
    Calls Try.prog 6 #[.int .i64 a0, .int .i64 a1, .bool a2] w fun e w' => e = .returned (.bool true) ∧ Below w.heap.size w w' := by
  have hne_ : (cfixZ a0 a1 a2 != cfixZ a0 a1 a2) = false := by simp
  go_enter Try.func6, Try.ntmps6
  go_wp2_with fail
  refine (specCountFixed_any _ _ _ _).mono ?_
  rintro e w1 ⟨rfl, hb1⟩
  have hq1 := hb1
  have hs1 := hq1.size
  have hz1 := hb1.size
  go_wp2_with fail
  refine (CountFixed_any _ _ _ _).mono ?_
  rintro e w2 ⟨rfl, hb2⟩
  have hq2 := hq1.trans (hb2.mono hs1)
  have hs2 := hq2.size
  have hz2 := hb2.size
  go_wp2_with fail
  go_ret
  exact ⟨rfl, hq2⟩
end Go.Proofs.Ytehnbalbpfmijaa
