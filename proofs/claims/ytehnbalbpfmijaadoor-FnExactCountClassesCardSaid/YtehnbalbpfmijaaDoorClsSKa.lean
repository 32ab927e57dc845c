/- What the claim's walk rests on: parts ClsS. -/
import Derived.Test.YtehnbalbpfmijaaDoorKa12
import Derived.Test.YtehnbalbpfmijaaDoorKa11
namespace Go.Proofs.YtehnbalbpfmijaaDoor
open Go.RowKit
set_option linter.unusedVariables false

abbrev TwoL (w : World) (p q : Addr) (g g' : Option Addr) (n n' c c' : Nat) : Prop := w.cell? p = some (.slice g n c) ∧ w.cell? q = some (.slice g' n' c')
theorem TwoL.below {w w' : World} {p q : Addr} {g g' : Option Addr} {n n' c c' : Nat} (hb : Below w.heap.size w w') (hp : p.block < w.heap.size) (hq : q.block < w.heap.size) (h : TwoL w p q g g' n n' c c') : TwoL w' p q g g' n n' c c' :=
  ⟨(hb.cell hp).trans h.1, (hb.cell hq).trans h.2⟩

set_option maxRecDepth 100000 in
set_option maxHeartbeats 8000000 in
theorem specCountClasses_yes2 (s : Nat) (hs2 : s = 2) (w : World) :
    Calls Tryd.prog 4 #[.int .i64 (s : Int)] w fun e w' => e = .returned (.int .i64 (refTo (hitB s) (allT s) (allT s).length : Nat)) ∧ Below w.heap.size w w' := by
  have hs : s = 2 ∨ s = 4 := by omega
  obtain ⟨hb1, hb2, hb3⟩ := fix_at hs
  have HLT := Lib.hid (specListT_sq s hs)
  have HRC := Lib.hid (specRectangle_yes s s (by omega) (by omega))
  have HSN : Hid (∀ t : Nat, t ≤ 3 → ∀ m v ls, ls ∈ allT s → ∀ B w, RdF elDomino w B v ls → B ≤ w.heap.size → Calls Tryd.prog 9 #[.int .i64 (s : Int), v, .int .i64 (t : Int), .bool m] w fun e w' => ∃ u, e = .returned u ∧ OwnF elDomino w' w.heap.size u (seenZ (s : Int) ls t m) ∧ Below w.heap.size w w') :=
    fun t ht m v ls hl B w h hB => lmovS s hs t ht m v ls hl B w h hB
  have HHB : Hid (∀ a b t, hitB s a b t = (decide (seenZ (s : Int) a t false = b) || decide (seenZ (s : Int) a t true = b))) := fun _ _ _ => rfl
  have HGL : Hid (∀ k (h : k < (allT s).length), getL (allT s) k = (allT s)[k]) := fun k h => by unfold Hid getL at *; simp [h]
  generalize rectZ s s = rz at *
  generalize allT s = L at *
  obtain ⟨hit, HHE⟩ : ∃ hit, Hid (hit = hitB s) := ⟨_, rfl⟩
  rw [← HHE.out] at HHB ⊢
  obtain ⟨sz, HSZ⟩ : ∃ sz, Hid ((fun ls t m => seenZ (s : Int) ls t m) = sz) := ⟨_, rfl⟩
  have hsz : ∀ ls t m, seenZ (s : Int) ls t m = sz ls t m := fun ls t m => by rw [← HSZ.out]
  simp only [hsz, Hid] at HSN HHB
  replace HSN := Lib.hid HSN; replace HHB := Lib.hid HHB
  have HN1 : Hid (∀ k, refTo hit L (k + 1) = if fstI hit L (getL L k) k then refTo hit L k + 1 else refTo hit L k) := fun _ => rfl
  have HN0 : Hid (refTo hit L 0 = 0) := rfl
  have HNL : Hid (∀ k, refTo hit L k ≤ k) := fun k => by
    induction k with
    | zero => exact Nat.le_refl _
    | succ k ih => rw [HN1.out]; split <;> omega
  obtain ⟨nt, HNT⟩ : ∃ nt, Hid (nt = refTo hit L) := ⟨_, rfl⟩
  rw [← HNT.out] at HN1 HN0 HNL ⊢
  clear HHE HSZ hsz HNT hb1 hb2
  have hc2' : ((s : Int) != 2) = false := by rw [hs2]; rfl
  clear hs2 hs
  go_enter Tryd.func4, Tryd.ntmps4
  go_wp2_with fail
  refine (HRC.out _).mono ?_
  rintro e w1 ⟨u1, rfl, hr1, hb1⟩
  have HB1 := Lib.hid hb1
  have HL := Lib.hid (HLT.out u1 _ w1 hr1 (Nat.le_refl _))
  clear hb1 hr1
  go_wp2_with fail
  refine HL.out.mono ?_
  rintro e w2 ⟨v2, hi2, rfl, hN2⟩
  have HB2 := Lib.hid (HB1.out.trans (hN2.choose_spec.1.2.1.mono HB1.out.size))
  obtain ⟨A2, c2, rfl, q1, q2, G⟩ := hN2.rdDL.open_
  unfold maxLen at q2
  have HG := Lib.hid G
  clear hN2 HL G
  go_wp2_with fail
  go_loopw [3, 5] (fun n i wr => ∃ k : Nat, k ≤ L.length ∧ i = .int .i64 (k : Int) ∧ n = .int .i64 (nt k : Nat) ∧ Hid (Below w2.heap.size w2 wr)) (fun _ i _ => L.length - (intOf i).toNat)
  case atStart => exact ⟨0, Nat.zero_le _, rfl, by rw [HN0.out]; rfl, Below.refl _ _⟩
  case round =>
    obtain ⟨k, hk, rfl, rfl, HB⟩ := hrel
    have hnk := HNL.out k
    by_cases hlt : k < L.length
    · have ht : decide ((k : Int) < (L.length : Int)) = true := by simp only [decide_eq_true_eq]; omega
      obtain ⟨ad, slk, rfl, hblk, hck, hxk⟩ := HG.out k hlt
      have HBK2 : Hid ((ad.add k).block < w2.heap.size) := by unfold Hid; rw [addBlock]; exact hblk
      have HNK : Hid (nt (k + 1) = if fstI hit L L[k] k then nt k + 1 else nt k) := by rw [← HGL.out k hlt]; exact HN1.out k
      generalize L[k] = lk at *
      obtain ⟨gk, nk, ck⟩ := slk
      obtain ⟨A3, c3', hv3, _, _, _⟩ := id hxk
      simp only [slV, Value.slice.injEq] at hv3
      obtain ⟨rfl, rfl, rfl⟩ := hv3
      have HCK : Hid (w2.cell? (ad.add k) = some (.slice gk lk.length ck)) := hck
      have HXK2 : Hid (RdF elDomino w2 w2.heap.size (.slice gk lk.length ck) lk) := hxk
      have HF1 : Hid (∀ i, fstI hit L lk (i + 1) = fstT (hit (getL L i) lk) (fstI hit L lk i) 4) := fun _ => rfl
      have HF0 : Hid (fstI hit L lk 0 = true) := rfl
      obtain ⟨fi, HFI⟩ : ∃ fi, Hid (fi = fstI hit L lk) := ⟨_, rfl⟩
      rw [← HFI.out] at HF1 HF0 HNK
      clear HFI hck hxk hblk
      have hk0 : (0 : Int) ≤ (k : Int) := by omega
      have hk1 : (k : Int) < (L.length : Int) := by omega
      go_wp2_with fail
      go_loopw [6, 7] (fun f x wi => ∃ (i : Nat) (b : Bool), i ≤ k ∧ x = .int .i64 (i : Int) ∧ f = .bool b ∧ Hid (b = fi i) ∧ Hid (Below w2.heap.size w2 wi)) (fun _ x _ => k - (intOf x).toNat)
      case atStart => exact ⟨0, true, Nat.zero_le _, rfl, rfl, HF0.out.symm, HB⟩
      case round =>
        clear HB
        obtain ⟨i, b, hik, rfl, rfl, HFB, HB⟩ := hrel
        by_cases hlk : i < k
        · have htk : decide ((i : Int) < (k : Int)) = true := by simp only [decide_eq_true_eq]; omega
          have hil : i < L.length := by omega
          obtain ⟨ad2, sli, had, hbli, hci, hxi⟩ := HG.out i hil
          obtain rfl : ad2 = ad := (Option.some.inj had).symm
          have HBI2 : Hid ((ad2.add i).block < w2.heap.size) := by unfold Hid; rw [addBlock]; exact hbli
          have HFS : Hid (fi (i + 1) = fstT (hit L[i] lk) (fi i) 4) := by rw [← HGL.out i hil]; exact HF1.out i
          have HMI := Lib.hid (List.getElem_mem hil)
          generalize L[i] = li at *
          obtain ⟨gi, ni, ci⟩ := sli
          obtain ⟨A5, c5', hv5, _, _, _⟩ := id hxi
          simp only [slV, Value.slice.injEq] at hv5
          obtain ⟨rfl, rfl, rfl⟩ := hv5
          have HCI : Hid (w2.cell? (ad2.add i) = some (.slice gi li.length ci)) := hci
          have HXI2 : Hid (RdF elDomino w2 w2.heap.size (.slice gi li.length ci) li) := hxi
          rw [← HFB.out] at HFS
          have HT1 : Hid (∀ t, fstT (hit li lk) b (t + 1) = if hit li lk t then false else fstT (hit li lk) b t) := fun _ => rfl
          have HT0 : Hid (fstT (hit li lk) b 0 = b) := rfl
          obtain ⟨ft, HFTE⟩ : ∃ ft, Hid (ft = fstT (hit li lk) b) := ⟨_, rfl⟩
          rw [← HFTE.out] at HT1 HT0 HFS
          clear HFTE hci hxi hbli had HFB
          have hi0 : (0 : Int) ≤ (i : Int) := by omega
          have hi1 : (i : Int) < (L.length : Int) := by omega
          go_wp2_with fail
          go_loopw [6, 8] (fun f x wi => ∃ (t : Nat) (b : Bool), t ≤ 4 ∧ x = .int .i64 (t : Int) ∧ f = .bool b ∧ Hid (b = ft t) ∧ Hid (Below w2.heap.size w2 wi)) (fun _ x _ => 4 - (intOf x).toNat)
          case atStart => exact ⟨0, b, Nat.zero_le _, rfl, rfl, HT0.out.symm, HB⟩
          case round =>
            clear HB
            obtain ⟨t, b, ht4, rfl, rfl, HFB, HB⟩ := hrel
            by_cases hlt4 : t < 4
            · have htt : decide ((t : Int) < 4) = true := by simp only [decide_eq_true_eq]; omega
              have ht0 : (0 : Int) ≤ (t : Int) := by omega
              have HFT := Lib.hid (HT1.out t)
              rw [HHB.out li lk t, ← HFB.out] at HFT
              have hS0 : TwoL wr (ad2.add i) (ad2.add k) gi gk li.length lk.length ci ck := ⟨(HB.out.cell HBI2.out).trans HCI.out, (HB.out.cell HBK2.out).trans HCK.out⟩
              have HBI : Hid ((ad2.add i).block < wr.heap.size) := Nat.lt_of_lt_of_le HBI2.out HB.out.size
              have HBK : Hid ((ad2.add k).block < wr.heap.size) := Nat.lt_of_lt_of_le HBK2.out HB.out.size
              have HXI := Lib.hid ((HXI2.out.below HB.out).more HB.out.size)
              have HXK := Lib.hid ((HXK2.out.below HB.out).more HB.out.size)
              have HSK := Lib.hid (fun m V (hb : Below wr.heap.size wr V) => HSN.out t (by omega) m _ li HMI.out _ V (HXI.out.below hb) hb.size)
              cases hq1 : decide (sz li t false = lk)
              · cases hq2 : decide (sz li t true = lk)
                · rw [hq1, hq2] at HFT
                  go_wp2_with fail
                  refine wp_region_held_drew (S := fun w' => TwoL w' (ad2.add i) (ad2.add k) gi gk li.length lk.length ci ck) (by kernel_rfl) (by exact hS0) (fun hHeld => ?_)
                  refine wpAnyH_take (i := 0) (oi := ⟨_, _, _, _, _, _⟩) (v := ?vap8233q1n0) rfl (by kernel_rfl) (by kernel_rfl) (by kernel_rfl) (fun _ _ _ h => h) (Or.inl ⟨by rfl, ?hap8233q1n0⟩) (by assumption) ?_
                  case hap8233q1n0 => (intro w hSw; (try dsimp only at hSw); go_simp; try with_reducible rfl)
                  try simp only [Act.put, List.setIfInBounds_toArray, List.set_cons_zero, List.set_cons_succ]
                  refine wpAnyH_take (i := 1) (oi := ⟨_, _, _, _, _, _⟩) (v := ?vap8233q2n1) rfl (by kernel_rfl) (by kernel_rfl) (by kernel_rfl) (fun _ _ _ h => h) (Or.inl ⟨by rfl, ?hap8233q2n1⟩) (by assumption) ?_
                  case hap8233q2n1 => (intro w hSw; (try dsimp only at hSw); go_simp; try with_reducible rfl)
                  try simp only [Act.put, List.setIfInBounds_toArray, List.set_cons_zero, List.set_cons_succ]
                  refine wpAnyH_take (i := 2) (oi := ⟨_, _, _, _, _, _⟩) (v := ?vap8233q3n2) rfl (by kernel_rfl) (by kernel_rfl) (by kernel_rfl) (fun _ _ _ h => h) (Or.inl ⟨by rfl, ?hap8233q3n2⟩) (by assumption) ?_
                  case hap8233q3n2 => (intro w hSw; (try dsimp only at hSw); go_simp; try with_reducible rfl)
                  try simp only [Act.put, List.setIfInBounds_toArray, List.set_cons_zero, List.set_cons_succ]
                  refine wpAnyH_take (i := 3) (oi := ⟨_, _, _, _, _, _⟩) (v := ?vap8233q4n3) rfl (by kernel_rfl) (by kernel_rfl) (by kernel_rfl) (fun _ _ _ h => h) (Or.inl ⟨by rfl, ?hap8233q4n3⟩) (by assumption) ?_
                  case hap8233q4n3 => (intro w hSw; (try dsimp only at hSw); go_simp; try with_reducible rfl)
                  try simp only [Act.put, List.setIfInBounds_toArray, List.set_cons_zero, List.set_cons_succ]
                  refine wpAnyH_take (i := 4) (oi := ⟨_, _, _, _, _, _⟩) (v := ?vap8233q5n4) rfl (by kernel_rfl) (by kernel_rfl) (by kernel_rfl) (fun _ _ _ h => h) (Or.inl ⟨by rfl, ?hap8233q5n4⟩) (by assumption) ?_
                  case hap8233q5n4 => (intro w hSw; (try dsimp only at hSw); go_simp; try with_reducible rfl)
                  try simp only [Act.put, List.setIfInBounds_toArray, List.set_cons_zero, List.set_cons_succ]
                  refine wpAnyH_take (i := 5) (oi := ⟨_, _, _, _, _, _⟩) (v := ?vap8233q6n5) rfl (by kernel_rfl) (by kernel_rfl) (by kernel_rfl) (fun _ _ _ h => h) (Or.inl ⟨by rfl, ?hap8233q6n5⟩) (by assumption) ?_
                  case hap8233q6n5 => (intro w hSw; (try dsimp only at hSw); go_simp; try with_reducible rfl)
                  try simp only [Act.put, List.setIfInBounds_toArray, List.set_cons_zero, List.set_cons_succ]
                  refine wpAnyH_take (i := 7) (oi := ⟨_, _, _, _, _, _⟩) (v := ?vap8233q7n7) rfl (by kernel_rfl) (by kernel_rfl) (by kernel_rfl) (fun _ _ _ h => h) (Or.inl ⟨by rfl, ?hap8233q7n7⟩) (by assumption) ?_
                  case hap8233q7n7 => (intro w hSw; (try dsimp only at hSw); go_simp; try with_reducible rfl)
                  try simp only [Act.put, List.setIfInBounds_toArray, List.set_cons_zero, List.set_cons_succ]
                  refine wpAnyH_take (i := 8) (oi := ⟨_, _, _, _, _, _⟩) (v := ?vap8233q8n8) rfl (by kernel_rfl) (by kernel_rfl) (by kernel_rfl) (fun _ _ _ h => h) (Or.inl ⟨by rfl, ?hap8233q8n8⟩) (by assumption) ?_
                  case hap8233q8n8 => (intro w hSw; (try dsimp only at hSw); go_simp; try with_reducible rfl)
                  try simp only [Act.put, List.setIfInBounds_toArray, List.set_cons_zero, List.set_cons_succ]
                  refine wpAnyH_take (i := 9) (oi := ⟨_, _, _, _, _, _⟩) (v := ?vap8233q9n9) rfl (by kernel_rfl) (by kernel_rfl) (by kernel_rfl) (fun _ _ _ h => h) (Or.inl ⟨by rfl, ?hap8233q9n9⟩) (by assumption) ?_
                  case hap8233q9n9 => (intro w hSw; (try dsimp only at hSw); go_simp; try with_reducible rfl)
                  try simp only [Act.put, List.setIfInBounds_toArray, List.set_cons_zero, List.set_cons_succ]
                  refine wpAnyH_take (i := 10) (oi := ⟨_, _, _, _, _, _⟩) (v := ?vap8233q10n10) rfl (by kernel_rfl) (by kernel_rfl) (by kernel_rfl) (fun _ _ _ h => h) (Or.inl ⟨by rfl, ?hap8233q10n10⟩) (by assumption) ?_
                  case hap8233q10n10 => (intro w hSw; (try dsimp only at hSw); go_simp; try with_reducible rfl)
                  try simp only [Act.put, List.setIfInBounds_toArray, List.set_cons_zero, List.set_cons_succ]
                  refine wpAnyH_ready (rs := [6]) (by kernel_rfl) (by simp) ?_
                  refine AllReadyH.cons (o := ⟨_, _, _, _, _, _⟩) rfl (fun K hK => ?_) AllReadyH.nil
                  go_simp
                  go_at_call 9
                  refine (HSK.out false _ (Below.refl _ _).drew).mono ?_
                  rintro e w3 ⟨u3, rfl, ho, hb9⟩
                  have HW3 : Hid (Below wr.heap.size wr w3) := (Below.refl wr.heap.size wr).drew.trans hb9
                  have hS3 := TwoL.below HW3.out HBI.out HBK.out hS0
                  have HSD := Lib.hid (specSameD_any u3 _ (sz li t false) lk w3.heap.size w3 (ho.rd okDomino) ((HXK.out.below HW3.out).more HW3.out.size) (Nat.le_refl _))
                  obtain ⟨A4, c4, hu9, _, _, _⟩ := ho.rd okDomino
                  subst hu9
                  clear hb9 ho
                  refine hK.out _ _ (by first | exact hS6 | exact hS5 | exact hS4 | exact hS3) (fun hHeld => ?_)
                  clear hK K
                  try simp only [Act.put, List.setIfInBounds_toArray, List.set_cons_zero, List.set_cons_succ]
                  refine wpAnyH_ready (rs := [11]) (by kernel_rfl) (by simp) ?_
                  refine AllReadyH.cons (o := ⟨_, _, _, _, _, _⟩) rfl (fun K hK => ?_) AllReadyH.nil
                  go_simp
                  go_at_call 8
                  refine HSD.out.mono ?_
                  rintro e w4 ⟨rfl, hd9⟩
                  have HW4 : Hid (Below wr.heap.size wr w4) := HW3.out.trans ((hd9.below w3.heap.size).mono HW3.out.size)
                  have hS4 := TwoL.below HW4.out HBI.out HBK.out hS0
                  clear hd9 HSD
                  rw [hq1]
                  refine hK.out _ _ (by first | exact hS6 | exact hS5 | exact hS4 | exact hS3) (fun hHeld => ?_)
                  clear hK K
                  try simp only [Act.put, List.setIfInBounds_toArray, List.set_cons_zero, List.set_cons_succ]
                  refine wpAnyH_take (i := 12) (oi := ⟨_, _, _, _, _, _⟩) (v := ?vap8233q11n12) rfl (by kernel_rfl) (by kernel_rfl) (by kernel_rfl) (fun _ _ _ h => h) (Or.inl ⟨by rfl, ?hap8233q11n12⟩) (by assumption) ?_
                  case hap8233q11n12 => (intro w hSw; (try dsimp only at hSw); go_simp; try with_reducible rfl)
                  try simp only [Act.put, List.setIfInBounds_toArray, List.set_cons_zero, List.set_cons_succ]
                  refine wpAnyH_take (i := 13) (oi := ⟨_, _, _, _, _, _⟩) (v := ?vap8233q12n13) rfl (by kernel_rfl) (by kernel_rfl) (by kernel_rfl) (fun _ _ _ h => h) (Or.inl ⟨by rfl, ?hap8233q12n13⟩) (by assumption) ?_
                  case hap8233q12n13 => (intro w hSw; (try dsimp only at hSw); go_simp; try with_reducible rfl)
                  try simp only [Act.put, List.setIfInBounds_toArray, List.set_cons_zero, List.set_cons_succ]
                  refine wpAnyH_take (i := 14) (oi := ⟨_, _, _, _, _, _⟩) (v := ?vap8233q13n14) rfl (by kernel_rfl) (by kernel_rfl) (by kernel_rfl) (fun _ _ _ h => h) (Or.inl ⟨by rfl, ?hap8233q13n14⟩) (by assumption) ?_
                  case hap8233q13n14 => (intro w hSw; (try dsimp only at hSw); go_simp; try with_reducible rfl)
                  try simp only [Act.put, List.setIfInBounds_toArray, List.set_cons_zero, List.set_cons_succ]
                  refine wpAnyH_take (i := 15) (oi := ⟨_, _, _, _, _, _⟩) (v := ?vap8233q14n15) rfl (by kernel_rfl) (by kernel_rfl) (by kernel_rfl) (fun _ _ _ h => h) (Or.inl ⟨by rfl, ?hap8233q14n15⟩) (by assumption) ?_
                  case hap8233q14n15 => (intro w hSw; (try dsimp only at hSw); go_simp; try with_reducible rfl)
                  try simp only [Act.put, List.setIfInBounds_toArray, List.set_cons_zero, List.set_cons_succ]
                  refine wpAnyH_take (i := 16) (oi := ⟨_, _, _, _, _, _⟩) (v := ?vap8233q15n16) rfl (by kernel_rfl) (by kernel_rfl) (by kernel_rfl) (fun _ _ _ h => h) (Or.inl ⟨by rfl, ?hap8233q15n16⟩) (by assumption) ?_
                  case hap8233q15n16 => (intro w hSw; (try dsimp only at hSw); go_simp; try with_reducible rfl)
                  try simp only [Act.put, List.setIfInBounds_toArray, List.set_cons_zero, List.set_cons_succ]
                  refine wpAnyH_take (i := 17) (oi := ⟨_, _, _, _, _, _⟩) (v := ?vap8233q16n17) rfl (by kernel_rfl) (by kernel_rfl) (by kernel_rfl) (fun _ _ _ h => h) (Or.inl ⟨by rfl, ?hap8233q16n17⟩) (by assumption) ?_
                  case hap8233q16n17 => (intro w hSw; (try dsimp only at hSw); go_simp; try with_reducible rfl)
                  try simp only [Act.put, List.setIfInBounds_toArray, List.set_cons_zero, List.set_cons_succ]
                  refine wpAnyH_take (i := 18) (oi := ⟨_, _, _, _, _, _⟩) (v := ?vap8233q17n18) rfl (by kernel_rfl) (by kernel_rfl) (by kernel_rfl) (fun _ _ _ h => h) (Or.inl ⟨by rfl, ?hap8233q17n18⟩) (by assumption) ?_
                  case hap8233q17n18 => (intro w hSw; (try dsimp only at hSw); go_simp; try with_reducible rfl)
                  try simp only [Act.put, List.setIfInBounds_toArray, List.set_cons_zero, List.set_cons_succ]
                  refine wpAnyH_take (i := 20) (oi := ⟨_, _, _, _, _, _⟩) (v := ?vap8233q18n20) rfl (by kernel_rfl) (by kernel_rfl) (by kernel_rfl) (fun _ _ _ h => h) (Or.inl ⟨by rfl, ?hap8233q18n20⟩) (by assumption) ?_
                  case hap8233q18n20 => (intro w hSw; (try dsimp only at hSw); go_simp; try with_reducible rfl)
                  try simp only [Act.put, List.setIfInBounds_toArray, List.set_cons_zero, List.set_cons_succ]
                  refine wpAnyH_take (i := 21) (oi := ⟨_, _, _, _, _, _⟩) (v := ?vap8233q19n21) rfl (by kernel_rfl) (by kernel_rfl) (by kernel_rfl) (fun _ _ _ h => h) (Or.inl ⟨by rfl, ?hap8233q19n21⟩) (by assumption) ?_
                  case hap8233q19n21 => (intro w hSw; (try dsimp only at hSw); go_simp; try with_reducible rfl)
                  try simp only [Act.put, List.setIfInBounds_toArray, List.set_cons_zero, List.set_cons_succ]
                  refine wpAnyH_take (i := 22) (oi := ⟨_, _, _, _, _, _⟩) (v := ?vap8233q20n22) rfl (by kernel_rfl) (by kernel_rfl) (by kernel_rfl) (fun _ _ _ h => h) (Or.inl ⟨by rfl, ?hap8233q20n22⟩) (by assumption) ?_
                  case hap8233q20n22 => (intro w hSw; (try dsimp only at hSw); go_simp; try with_reducible rfl)
                  try simp only [Act.put, List.setIfInBounds_toArray, List.set_cons_zero, List.set_cons_succ]
                  refine wpAnyH_take (i := 23) (oi := ⟨_, _, _, _, _, _⟩) (v := ?vap8233q21n23) rfl (by kernel_rfl) (by kernel_rfl) (by kernel_rfl) (fun _ _ _ h => h) (Or.inl ⟨by rfl, ?hap8233q21n23⟩) (by assumption) ?_
                  case hap8233q21n23 => (intro w hSw; (try dsimp only at hSw); go_simp; try with_reducible rfl)
                  try simp only [Act.put, List.setIfInBounds_toArray, List.set_cons_zero, List.set_cons_succ]
                  refine wpAnyH_ready (rs := [19]) (by kernel_rfl) (by simp) ?_
                  refine AllReadyH.cons (o := ⟨_, _, _, _, _, _⟩) rfl (fun K hK => ?_) AllReadyH.nil
                  go_simp
                  go_at_call 9
                  refine (HSK.out true _ HW4.out).mono ?_
                  rintro e w5 ⟨u5, rfl, ho, hb9⟩
                  have HW5 : Hid (Below wr.heap.size wr w5) := HW4.out.trans (hb9.mono HW4.out.size)
                  have hS5 := TwoL.below HW5.out HBI.out HBK.out hS0
                  have HSD := Lib.hid (specSameD_any u5 _ (sz li t true) lk w5.heap.size w5 (ho.rd okDomino) ((HXK.out.below HW5.out).more HW5.out.size) (Nat.le_refl _))
                  obtain ⟨A4, c4, hu9, _, _, _⟩ := ho.rd okDomino
                  subst hu9
                  clear hb9 ho
                  refine hK.out _ _ (by first | exact hS6 | exact hS5 | exact hS4 | exact hS3) (fun hHeld => ?_)
                  clear hK K
                  try simp only [Act.put, List.setIfInBounds_toArray, List.set_cons_zero, List.set_cons_succ]
                  refine wpAnyH_ready (rs := [24]) (by kernel_rfl) (by simp) ?_
                  refine AllReadyH.cons (o := ⟨_, _, _, _, _, _⟩) rfl (fun K hK => ?_) AllReadyH.nil
                  go_simp
                  go_at_call 8
                  refine HSD.out.mono ?_
                  rintro e w6 ⟨rfl, hd9⟩
                  have HW6 : Hid (Below wr.heap.size wr w6) := HW5.out.trans ((hd9.below w5.heap.size).mono HW5.out.size)
                  have hS6 := TwoL.below HW6.out HBI.out HBK.out hS0
                  clear hd9 HSD
                  rw [hq2]
                  refine hK.out _ _ (by first | exact hS6 | exact hS5 | exact hS4 | exact hS3) (fun hHeld => ?_)
                  clear hK K
                  try simp only [Act.put, List.setIfInBounds_toArray, List.set_cons_zero, List.set_cons_succ]
                  refine wpAnyH_take (i := 25) (oi := ⟨_, _, _, _, _, _⟩) (v := ?vap8233q22n25) rfl (by kernel_rfl) (by kernel_rfl) (by kernel_rfl) (fun _ _ _ h => h) (Or.inl ⟨by rfl, ?hap8233q22n25⟩) (by assumption) ?_
                  case hap8233q22n25 => (intro w hSw; (try dsimp only at hSw); go_simp; try with_reducible rfl)
                  try simp only [Act.put, List.setIfInBounds_toArray, List.set_cons_zero, List.set_cons_succ]
                  refine wpAnyH_done (by kernel_rfl) ?_ _
                  go_wp2_with fail
                  go_roundw
                  case rel => exact ⟨t + 1, b, by omega, by go_num, rfl, by rw [HFT.out]; rfl, HB.out.trans (HW6.out.mono HB.out.size)⟩
                  case measure => simp [intOf]; omega
                · rw [hq1, hq2] at HFT
                  go_wp2_with fail
                  refine wp_region_held_drew (S := fun w' => TwoL w' (ad2.add i) (ad2.add k) gi gk li.length lk.length ci ck) (by kernel_rfl) (by exact hS0) (fun hHeld => ?_)
                  refine wpAnyH_take (i := 0) (oi := ⟨_, _, _, _, _, _⟩) (v := ?vap8234q1n0) rfl (by kernel_rfl) (by kernel_rfl) (by kernel_rfl) (fun _ _ _ h => h) (Or.inl ⟨by rfl, ?hap8234q1n0⟩) (by assumption) ?_
                  case hap8234q1n0 => (intro w hSw; (try dsimp only at hSw); go_simp; try with_reducible rfl)
                  try simp only [Act.put, List.setIfInBounds_toArray, List.set_cons_zero, List.set_cons_succ]
                  refine wpAnyH_take (i := 1) (oi := ⟨_, _, _, _, _, _⟩) (v := ?vap8234q2n1) rfl (by kernel_rfl) (by kernel_rfl) (by kernel_rfl) (fun _ _ _ h => h) (Or.inl ⟨by rfl, ?hap8234q2n1⟩) (by assumption) ?_
                  case hap8234q2n1 => (intro w hSw; (try dsimp only at hSw); go_simp; try with_reducible rfl)
                  try simp only [Act.put, List.setIfInBounds_toArray, List.set_cons_zero, List.set_cons_succ]
                  refine wpAnyH_take (i := 2) (oi := ⟨_, _, _, _, _, _⟩) (v := ?vap8234q3n2) rfl (by kernel_rfl) (by kernel_rfl) (by kernel_rfl) (fun _ _ _ h => h) (Or.inl ⟨by rfl, ?hap8234q3n2⟩) (by assumption) ?_
                  case hap8234q3n2 => (intro w hSw; (try dsimp only at hSw); go_simp; try with_reducible rfl)
                  try simp only [Act.put, List.setIfInBounds_toArray, List.set_cons_zero, List.set_cons_succ]
                  refine wpAnyH_take (i := 3) (oi := ⟨_, _, _, _, _, _⟩) (v := ?vap8234q4n3) rfl (by kernel_rfl) (by kernel_rfl) (by kernel_rfl) (fun _ _ _ h => h) (Or.inl ⟨by rfl, ?hap8234q4n3⟩) (by assumption) ?_
                  case hap8234q4n3 => (intro w hSw; (try dsimp only at hSw); go_simp; try with_reducible rfl)
                  try simp only [Act.put, List.setIfInBounds_toArray, List.set_cons_zero, List.set_cons_succ]
                  refine wpAnyH_take (i := 4) (oi := ⟨_, _, _, _, _, _⟩) (v := ?vap8234q5n4) rfl (by kernel_rfl) (by kernel_rfl) (by kernel_rfl) (fun _ _ _ h => h) (Or.inl ⟨by rfl, ?hap8234q5n4⟩) (by assumption) ?_
                  case hap8234q5n4 => (intro w hSw; (try dsimp only at hSw); go_simp; try with_reducible rfl)
                  try simp only [Act.put, List.setIfInBounds_toArray, List.set_cons_zero, List.set_cons_succ]
                  refine wpAnyH_take (i := 5) (oi := ⟨_, _, _, _, _, _⟩) (v := ?vap8234q6n5) rfl (by kernel_rfl) (by kernel_rfl) (by kernel_rfl) (fun _ _ _ h => h) (Or.inl ⟨by rfl, ?hap8234q6n5⟩) (by assumption) ?_
                  case hap8234q6n5 => (intro w hSw; (try dsimp only at hSw); go_simp; try with_reducible rfl)
                  try simp only [Act.put, List.setIfInBounds_toArray, List.set_cons_zero, List.set_cons_succ]
                  refine wpAnyH_take (i := 7) (oi := ⟨_, _, _, _, _, _⟩) (v := ?vap8234q7n7) rfl (by kernel_rfl) (by kernel_rfl) (by kernel_rfl) (fun _ _ _ h => h) (Or.inl ⟨by rfl, ?hap8234q7n7⟩) (by assumption) ?_
                  case hap8234q7n7 => (intro w hSw; (try dsimp only at hSw); go_simp; try with_reducible rfl)
                  try simp only [Act.put, List.setIfInBounds_toArray, List.set_cons_zero, List.set_cons_succ]
                  refine wpAnyH_take (i := 8) (oi := ⟨_, _, _, _, _, _⟩) (v := ?vap8234q8n8) rfl (by kernel_rfl) (by kernel_rfl) (by kernel_rfl) (fun _ _ _ h => h) (Or.inl ⟨by rfl, ?hap8234q8n8⟩) (by assumption) ?_
                  case hap8234q8n8 => (intro w hSw; (try dsimp only at hSw); go_simp; try with_reducible rfl)
                  try simp only [Act.put, List.setIfInBounds_toArray, List.set_cons_zero, List.set_cons_succ]
                  refine wpAnyH_take (i := 9) (oi := ⟨_, _, _, _, _, _⟩) (v := ?vap8234q9n9) rfl (by kernel_rfl) (by kernel_rfl) (by kernel_rfl) (fun _ _ _ h => h) (Or.inl ⟨by rfl, ?hap8234q9n9⟩) (by assumption) ?_
                  case hap8234q9n9 => (intro w hSw; (try dsimp only at hSw); go_simp; try with_reducible rfl)
                  try simp only [Act.put, List.setIfInBounds_toArray, List.set_cons_zero, List.set_cons_succ]
                  refine wpAnyH_take (i := 10) (oi := ⟨_, _, _, _, _, _⟩) (v := ?vap8234q10n10) rfl (by kernel_rfl) (by kernel_rfl) (by kernel_rfl) (fun _ _ _ h => h) (Or.inl ⟨by rfl, ?hap8234q10n10⟩) (by assumption) ?_
                  case hap8234q10n10 => (intro w hSw; (try dsimp only at hSw); go_simp; try with_reducible rfl)
                  try simp only [Act.put, List.setIfInBounds_toArray, List.set_cons_zero, List.set_cons_succ]
                  refine wpAnyH_ready (rs := [6]) (by kernel_rfl) (by simp) ?_
                  refine AllReadyH.cons (o := ⟨_, _, _, _, _, _⟩) rfl (fun K hK => ?_) AllReadyH.nil
                  go_simp
                  go_at_call 9
                  refine (HSK.out false _ (Below.refl _ _).drew).mono ?_
                  rintro e w3 ⟨u3, rfl, ho, hb9⟩
                  have HW3 : Hid (Below wr.heap.size wr w3) := (Below.refl wr.heap.size wr).drew.trans hb9
                  have hS3 := TwoL.below HW3.out HBI.out HBK.out hS0
                  have HSD := Lib.hid (specSameD_any u3 _ (sz li t false) lk w3.heap.size w3 (ho.rd okDomino) ((HXK.out.below HW3.out).more HW3.out.size) (Nat.le_refl _))
                  obtain ⟨A4, c4, hu9, _, _, _⟩ := ho.rd okDomino
                  subst hu9
                  clear hb9 ho
                  refine hK.out _ _ (by first | exact hS6 | exact hS5 | exact hS4 | exact hS3) (fun hHeld => ?_)
                  clear hK K
                  try simp only [Act.put, List.setIfInBounds_toArray, List.set_cons_zero, List.set_cons_succ]
                  refine wpAnyH_ready (rs := [11]) (by kernel_rfl) (by simp) ?_
                  refine AllReadyH.cons (o := ⟨_, _, _, _, _, _⟩) rfl (fun K hK => ?_) AllReadyH.nil
                  go_simp
                  go_at_call 8
                  refine HSD.out.mono ?_
                  rintro e w4 ⟨rfl, hd9⟩
                  have HW4 : Hid (Below wr.heap.size wr w4) := HW3.out.trans ((hd9.below w3.heap.size).mono HW3.out.size)
                  have hS4 := TwoL.below HW4.out HBI.out HBK.out hS0
                  clear hd9 HSD
                  rw [hq1]
                  refine hK.out _ _ (by first | exact hS6 | exact hS5 | exact hS4 | exact hS3) (fun hHeld => ?_)
                  clear hK K
                  try simp only [Act.put, List.setIfInBounds_toArray, List.set_cons_zero, List.set_cons_succ]
                  refine wpAnyH_take (i := 12) (oi := ⟨_, _, _, _, _, _⟩) (v := ?vap8234q11n12) rfl (by kernel_rfl) (by kernel_rfl) (by kernel_rfl) (fun _ _ _ h => h) (Or.inl ⟨by rfl, ?hap8234q11n12⟩) (by assumption) ?_
                  case hap8234q11n12 => (intro w hSw; (try dsimp only at hSw); go_simp; try with_reducible rfl)
                  try simp only [Act.put, List.setIfInBounds_toArray, List.set_cons_zero, List.set_cons_succ]
                  refine wpAnyH_take (i := 13) (oi := ⟨_, _, _, _, _, _⟩) (v := ?vap8234q12n13) rfl (by kernel_rfl) (by kernel_rfl) (by kernel_rfl) (fun _ _ _ h => h) (Or.inl ⟨by rfl, ?hap8234q12n13⟩) (by assumption) ?_
                  case hap8234q12n13 => (intro w hSw; (try dsimp only at hSw); go_simp; try with_reducible rfl)
                  try simp only [Act.put, List.setIfInBounds_toArray, List.set_cons_zero, List.set_cons_succ]
                  refine wpAnyH_take (i := 14) (oi := ⟨_, _, _, _, _, _⟩) (v := ?vap8234q13n14) rfl (by kernel_rfl) (by kernel_rfl) (by kernel_rfl) (fun _ _ _ h => h) (Or.inl ⟨by rfl, ?hap8234q13n14⟩) (by assumption) ?_
                  case hap8234q13n14 => (intro w hSw; (try dsimp only at hSw); go_simp; try with_reducible rfl)
                  try simp only [Act.put, List.setIfInBounds_toArray, List.set_cons_zero, List.set_cons_succ]
                  refine wpAnyH_take (i := 15) (oi := ⟨_, _, _, _, _, _⟩) (v := ?vap8234q14n15) rfl (by kernel_rfl) (by kernel_rfl) (by kernel_rfl) (fun _ _ _ h => h) (Or.inl ⟨by rfl, ?hap8234q14n15⟩) (by assumption) ?_
                  case hap8234q14n15 => (intro w hSw; (try dsimp only at hSw); go_simp; try with_reducible rfl)
                  try simp only [Act.put, List.setIfInBounds_toArray, List.set_cons_zero, List.set_cons_succ]
                  refine wpAnyH_take (i := 16) (oi := ⟨_, _, _, _, _, _⟩) (v := ?vap8234q15n16) rfl (by kernel_rfl) (by kernel_rfl) (by kernel_rfl) (fun _ _ _ h => h) (Or.inl ⟨by rfl, ?hap8234q15n16⟩) (by assumption) ?_
                  case hap8234q15n16 => (intro w hSw; (try dsimp only at hSw); go_simp; try with_reducible rfl)
                  try simp only [Act.put, List.setIfInBounds_toArray, List.set_cons_zero, List.set_cons_succ]
                  refine wpAnyH_take (i := 17) (oi := ⟨_, _, _, _, _, _⟩) (v := ?vap8234q16n17) rfl (by kernel_rfl) (by kernel_rfl) (by kernel_rfl) (fun _ _ _ h => h) (Or.inl ⟨by rfl, ?hap8234q16n17⟩) (by assumption) ?_
                  case hap8234q16n17 => (intro w hSw; (try dsimp only at hSw); go_simp; try with_reducible rfl)
                  try simp only [Act.put, List.setIfInBounds_toArray, List.set_cons_zero, List.set_cons_succ]
                  refine wpAnyH_take (i := 18) (oi := ⟨_, _, _, _, _, _⟩) (v := ?vap8234q17n18) rfl (by kernel_rfl) (by kernel_rfl) (by kernel_rfl) (fun _ _ _ h => h) (Or.inl ⟨by rfl, ?hap8234q17n18⟩) (by assumption) ?_
                  case hap8234q17n18 => (intro w hSw; (try dsimp only at hSw); go_simp; try with_reducible rfl)
                  try simp only [Act.put, List.setIfInBounds_toArray, List.set_cons_zero, List.set_cons_succ]
                  refine wpAnyH_take (i := 20) (oi := ⟨_, _, _, _, _, _⟩) (v := ?vap8234q18n20) rfl (by kernel_rfl) (by kernel_rfl) (by kernel_rfl) (fun _ _ _ h => h) (Or.inl ⟨by rfl, ?hap8234q18n20⟩) (by assumption) ?_
                  case hap8234q18n20 => (intro w hSw; (try dsimp only at hSw); go_simp; try with_reducible rfl)
                  try simp only [Act.put, List.setIfInBounds_toArray, List.set_cons_zero, List.set_cons_succ]
                  refine wpAnyH_take (i := 21) (oi := ⟨_, _, _, _, _, _⟩) (v := ?vap8234q19n21) rfl (by kernel_rfl) (by kernel_rfl) (by kernel_rfl) (fun _ _ _ h => h) (Or.inl ⟨by rfl, ?hap8234q19n21⟩) (by assumption) ?_
                  case hap8234q19n21 => (intro w hSw; (try dsimp only at hSw); go_simp; try with_reducible rfl)
                  try simp only [Act.put, List.setIfInBounds_toArray, List.set_cons_zero, List.set_cons_succ]
                  refine wpAnyH_take (i := 22) (oi := ⟨_, _, _, _, _, _⟩) (v := ?vap8234q20n22) rfl (by kernel_rfl) (by kernel_rfl) (by kernel_rfl) (fun _ _ _ h => h) (Or.inl ⟨by rfl, ?hap8234q20n22⟩) (by assumption) ?_
                  case hap8234q20n22 => (intro w hSw; (try dsimp only at hSw); go_simp; try with_reducible rfl)
                  try simp only [Act.put, List.setIfInBounds_toArray, List.set_cons_zero, List.set_cons_succ]
                  refine wpAnyH_take (i := 23) (oi := ⟨_, _, _, _, _, _⟩) (v := ?vap8234q21n23) rfl (by kernel_rfl) (by kernel_rfl) (by kernel_rfl) (fun _ _ _ h => h) (Or.inl ⟨by rfl, ?hap8234q21n23⟩) (by assumption) ?_
                  case hap8234q21n23 => (intro w hSw; (try dsimp only at hSw); go_simp; try with_reducible rfl)
                  try simp only [Act.put, List.setIfInBounds_toArray, List.set_cons_zero, List.set_cons_succ]
                  refine wpAnyH_ready (rs := [19]) (by kernel_rfl) (by simp) ?_
                  refine AllReadyH.cons (o := ⟨_, _, _, _, _, _⟩) rfl (fun K hK => ?_) AllReadyH.nil
                  go_simp
                  go_at_call 9
                  refine (HSK.out true _ HW4.out).mono ?_
                  rintro e w5 ⟨u5, rfl, ho, hb9⟩
                  have HW5 : Hid (Below wr.heap.size wr w5) := HW4.out.trans (hb9.mono HW4.out.size)
                  have hS5 := TwoL.below HW5.out HBI.out HBK.out hS0
                  have HSD := Lib.hid (specSameD_any u5 _ (sz li t true) lk w5.heap.size w5 (ho.rd okDomino) ((HXK.out.below HW5.out).more HW5.out.size) (Nat.le_refl _))
                  obtain ⟨A4, c4, hu9, _, _, _⟩ := ho.rd okDomino
                  subst hu9
                  clear hb9 ho
                  refine hK.out _ _ (by first | exact hS6 | exact hS5 | exact hS4 | exact hS3) (fun hHeld => ?_)
                  clear hK K
                  try simp only [Act.put, List.setIfInBounds_toArray, List.set_cons_zero, List.set_cons_succ]
                  refine wpAnyH_ready (rs := [24]) (by kernel_rfl) (by simp) ?_
                  refine AllReadyH.cons (o := ⟨_, _, _, _, _, _⟩) rfl (fun K hK => ?_) AllReadyH.nil
                  go_simp
                  go_at_call 8
                  refine HSD.out.mono ?_
                  rintro e w6 ⟨rfl, hd9⟩
                  have HW6 : Hid (Below wr.heap.size wr w6) := HW5.out.trans ((hd9.below w5.heap.size).mono HW5.out.size)
                  have hS6 := TwoL.below HW6.out HBI.out HBK.out hS0
                  clear hd9 HSD
                  rw [hq2]
                  refine hK.out _ _ (by first | exact hS6 | exact hS5 | exact hS4 | exact hS3) (fun hHeld => ?_)
                  clear hK K
                  try simp only [Act.put, List.setIfInBounds_toArray, List.set_cons_zero, List.set_cons_succ]
                  refine wpAnyH_take (i := 25) (oi := ⟨_, _, _, _, _, _⟩) (v := ?vap8234q22n25) rfl (by kernel_rfl) (by kernel_rfl) (by kernel_rfl) (fun _ _ _ h => h) (Or.inl ⟨by rfl, ?hap8234q22n25⟩) (by assumption) ?_
                  case hap8234q22n25 => (intro w hSw; (try dsimp only at hSw); go_simp; try with_reducible rfl)
                  try simp only [Act.put, List.setIfInBounds_toArray, List.set_cons_zero, List.set_cons_succ]
                  refine wpAnyH_done (by kernel_rfl) ?_ _
                  go_wp2_with fail
                  go_roundw
                  case rel => exact ⟨t + 1, false, by omega, by go_num, rfl, by rw [HFT.out]; rfl, HB.out.trans (HW6.out.mono HB.out.size)⟩
                  case measure => simp [intOf]; omega
              · rw [hq1] at HFT
                go_wp2_with fail
                refine wp_region_held_drew (S := fun w' => TwoL w' (ad2.add i) (ad2.add k) gi gk li.length lk.length ci ck) (by kernel_rfl) (by exact hS0) (fun hHeld => ?_)
                refine wpAnyH_take (i := 0) (oi := ⟨_, _, _, _, _, _⟩) (v := ?vap8235q1n0) rfl (by kernel_rfl) (by kernel_rfl) (by kernel_rfl) (fun _ _ _ h => h) (Or.inl ⟨by rfl, ?hap8235q1n0⟩) (by assumption) ?_
                case hap8235q1n0 => (intro w hSw; (try dsimp only at hSw); go_simp; try with_reducible rfl)
                try simp only [Act.put, List.setIfInBounds_toArray, List.set_cons_zero, List.set_cons_succ]
                refine wpAnyH_take (i := 1) (oi := ⟨_, _, _, _, _, _⟩) (v := ?vap8235q2n1) rfl (by kernel_rfl) (by kernel_rfl) (by kernel_rfl) (fun _ _ _ h => h) (Or.inl ⟨by rfl, ?hap8235q2n1⟩) (by assumption) ?_
                case hap8235q2n1 => (intro w hSw; (try dsimp only at hSw); go_simp; try with_reducible rfl)
                try simp only [Act.put, List.setIfInBounds_toArray, List.set_cons_zero, List.set_cons_succ]
                refine wpAnyH_take (i := 2) (oi := ⟨_, _, _, _, _, _⟩) (v := ?vap8235q3n2) rfl (by kernel_rfl) (by kernel_rfl) (by kernel_rfl) (fun _ _ _ h => h) (Or.inl ⟨by rfl, ?hap8235q3n2⟩) (by assumption) ?_
                case hap8235q3n2 => (intro w hSw; (try dsimp only at hSw); go_simp; try with_reducible rfl)
                try simp only [Act.put, List.setIfInBounds_toArray, List.set_cons_zero, List.set_cons_succ]
                refine wpAnyH_take (i := 3) (oi := ⟨_, _, _, _, _, _⟩) (v := ?vap8235q4n3) rfl (by kernel_rfl) (by kernel_rfl) (by kernel_rfl) (fun _ _ _ h => h) (Or.inl ⟨by rfl, ?hap8235q4n3⟩) (by assumption) ?_
                case hap8235q4n3 => (intro w hSw; (try dsimp only at hSw); go_simp; try with_reducible rfl)
                try simp only [Act.put, List.setIfInBounds_toArray, List.set_cons_zero, List.set_cons_succ]
                refine wpAnyH_take (i := 4) (oi := ⟨_, _, _, _, _, _⟩) (v := ?vap8235q5n4) rfl (by kernel_rfl) (by kernel_rfl) (by kernel_rfl) (fun _ _ _ h => h) (Or.inl ⟨by rfl, ?hap8235q5n4⟩) (by assumption) ?_
                case hap8235q5n4 => (intro w hSw; (try dsimp only at hSw); go_simp; try with_reducible rfl)
                try simp only [Act.put, List.setIfInBounds_toArray, List.set_cons_zero, List.set_cons_succ]
                refine wpAnyH_take (i := 5) (oi := ⟨_, _, _, _, _, _⟩) (v := ?vap8235q6n5) rfl (by kernel_rfl) (by kernel_rfl) (by kernel_rfl) (fun _ _ _ h => h) (Or.inl ⟨by rfl, ?hap8235q6n5⟩) (by assumption) ?_
                case hap8235q6n5 => (intro w hSw; (try dsimp only at hSw); go_simp; try with_reducible rfl)
                try simp only [Act.put, List.setIfInBounds_toArray, List.set_cons_zero, List.set_cons_succ]
                refine wpAnyH_take (i := 7) (oi := ⟨_, _, _, _, _, _⟩) (v := ?vap8235q7n7) rfl (by kernel_rfl) (by kernel_rfl) (by kernel_rfl) (fun _ _ _ h => h) (Or.inl ⟨by rfl, ?hap8235q7n7⟩) (by assumption) ?_
                case hap8235q7n7 => (intro w hSw; (try dsimp only at hSw); go_simp; try with_reducible rfl)
                try simp only [Act.put, List.setIfInBounds_toArray, List.set_cons_zero, List.set_cons_succ]
                refine wpAnyH_take (i := 8) (oi := ⟨_, _, _, _, _, _⟩) (v := ?vap8235q8n8) rfl (by kernel_rfl) (by kernel_rfl) (by kernel_rfl) (fun _ _ _ h => h) (Or.inl ⟨by rfl, ?hap8235q8n8⟩) (by assumption) ?_
                case hap8235q8n8 => (intro w hSw; (try dsimp only at hSw); go_simp; try with_reducible rfl)
                try simp only [Act.put, List.setIfInBounds_toArray, List.set_cons_zero, List.set_cons_succ]
                refine wpAnyH_take (i := 9) (oi := ⟨_, _, _, _, _, _⟩) (v := ?vap8235q9n9) rfl (by kernel_rfl) (by kernel_rfl) (by kernel_rfl) (fun _ _ _ h => h) (Or.inl ⟨by rfl, ?hap8235q9n9⟩) (by assumption) ?_
                case hap8235q9n9 => (intro w hSw; (try dsimp only at hSw); go_simp; try with_reducible rfl)
                try simp only [Act.put, List.setIfInBounds_toArray, List.set_cons_zero, List.set_cons_succ]
                refine wpAnyH_take (i := 10) (oi := ⟨_, _, _, _, _, _⟩) (v := ?vap8235q10n10) rfl (by kernel_rfl) (by kernel_rfl) (by kernel_rfl) (fun _ _ _ h => h) (Or.inl ⟨by rfl, ?hap8235q10n10⟩) (by assumption) ?_
                case hap8235q10n10 => (intro w hSw; (try dsimp only at hSw); go_simp; try with_reducible rfl)
                try simp only [Act.put, List.setIfInBounds_toArray, List.set_cons_zero, List.set_cons_succ]
                refine wpAnyH_ready (rs := [6]) (by kernel_rfl) (by simp) ?_
                refine AllReadyH.cons (o := ⟨_, _, _, _, _, _⟩) rfl (fun K hK => ?_) AllReadyH.nil
                go_simp
                go_at_call 9
                refine (HSK.out false _ (Below.refl _ _).drew).mono ?_
                rintro e w3 ⟨u3, rfl, ho, hb9⟩
                have HW3 : Hid (Below wr.heap.size wr w3) := (Below.refl wr.heap.size wr).drew.trans hb9
                have hS3 := TwoL.below HW3.out HBI.out HBK.out hS0
                have HSD := Lib.hid (specSameD_any u3 _ (sz li t false) lk w3.heap.size w3 (ho.rd okDomino) ((HXK.out.below HW3.out).more HW3.out.size) (Nat.le_refl _))
                obtain ⟨A4, c4, hu9, _, _, _⟩ := ho.rd okDomino
                subst hu9
                clear hb9 ho
                refine hK.out _ _ (by first | exact hS6 | exact hS5 | exact hS4 | exact hS3) (fun hHeld => ?_)
                clear hK K
                try simp only [Act.put, List.setIfInBounds_toArray, List.set_cons_zero, List.set_cons_succ]
                refine wpAnyH_ready (rs := [11]) (by kernel_rfl) (by simp) ?_
                refine AllReadyH.cons (o := ⟨_, _, _, _, _, _⟩) rfl (fun K hK => ?_) AllReadyH.nil
                go_simp
                go_at_call 8
                refine HSD.out.mono ?_
                rintro e w4 ⟨rfl, hd9⟩
                have HW4 : Hid (Below wr.heap.size wr w4) := HW3.out.trans ((hd9.below w3.heap.size).mono HW3.out.size)
                have hS4 := TwoL.below HW4.out HBI.out HBK.out hS0
                clear hd9 HSD
                rw [hq1]
                refine hK.out _ _ (by first | exact hS6 | exact hS5 | exact hS4 | exact hS3) (fun hHeld => ?_)
                clear hK K
                try simp only [Act.put, List.setIfInBounds_toArray, List.set_cons_zero, List.set_cons_succ]
                refine wpAnyH_take (i := 12) (oi := ⟨_, _, _, _, _, _⟩) (v := ?vap8235q11n12) rfl (by kernel_rfl) (by kernel_rfl) (by kernel_rfl) (fun _ _ _ h => h) (Or.inl ⟨by rfl, ?hap8235q11n12⟩) (by assumption) ?_
                case hap8235q11n12 => (intro w hSw; (try dsimp only at hSw); go_simp; try with_reducible rfl)
                try simp only [Act.put, List.setIfInBounds_toArray, List.set_cons_zero, List.set_cons_succ]
                refine wpAnyH_take (i := 13) (oi := ⟨_, _, _, _, _, _⟩) (v := undef) rfl (by kernel_rfl) (by kernel_rfl) (by kernel_rfl) (fun _ _ _ h => h) (Or.inr ⟨by rfl, rfl⟩) (by assumption) ?_
                try simp only [Act.put, List.setIfInBounds_toArray, List.set_cons_zero, List.set_cons_succ]
                refine wpAnyH_take (i := 14) (oi := ⟨_, _, _, _, _, _⟩) (v := undef) rfl (by kernel_rfl) (by kernel_rfl) (by kernel_rfl) (fun _ _ _ h => h) (Or.inr ⟨by rfl, rfl⟩) (by assumption) ?_
                try simp only [Act.put, List.setIfInBounds_toArray, List.set_cons_zero, List.set_cons_succ]
                refine wpAnyH_take (i := 15) (oi := ⟨_, _, _, _, _, _⟩) (v := undef) rfl (by kernel_rfl) (by kernel_rfl) (by kernel_rfl) (fun _ _ _ h => h) (Or.inr ⟨by rfl, rfl⟩) (by assumption) ?_
                try simp only [Act.put, List.setIfInBounds_toArray, List.set_cons_zero, List.set_cons_succ]
                refine wpAnyH_take (i := 16) (oi := ⟨_, _, _, _, _, _⟩) (v := undef) rfl (by kernel_rfl) (by kernel_rfl) (by kernel_rfl) (fun _ _ _ h => h) (Or.inr ⟨by rfl, rfl⟩) (by assumption) ?_
                try simp only [Act.put, List.setIfInBounds_toArray, List.set_cons_zero, List.set_cons_succ]
                refine wpAnyH_take (i := 17) (oi := ⟨_, _, _, _, _, _⟩) (v := undef) rfl (by kernel_rfl) (by kernel_rfl) (by kernel_rfl) (fun _ _ _ h => h) (Or.inr ⟨by rfl, rfl⟩) (by assumption) ?_
                try simp only [Act.put, List.setIfInBounds_toArray, List.set_cons_zero, List.set_cons_succ]
                refine wpAnyH_take (i := 18) (oi := ⟨_, _, _, _, _, _⟩) (v := undef) rfl (by kernel_rfl) (by kernel_rfl) (by kernel_rfl) (fun _ _ _ h => h) (Or.inr ⟨by rfl, rfl⟩) (by assumption) ?_
                try simp only [Act.put, List.setIfInBounds_toArray, List.set_cons_zero, List.set_cons_succ]
                refine wpAnyH_take (i := 19) (oi := ⟨_, _, _, _, _, _⟩) (v := undef) rfl (by kernel_rfl) (by kernel_rfl) (by kernel_rfl) (fun _ _ _ h => h) (Or.inr ⟨by rfl, rfl⟩) (by assumption) ?_
                try simp only [Act.put, List.setIfInBounds_toArray, List.set_cons_zero, List.set_cons_succ]
                refine wpAnyH_take (i := 20) (oi := ⟨_, _, _, _, _, _⟩) (v := undef) rfl (by kernel_rfl) (by kernel_rfl) (by kernel_rfl) (fun _ _ _ h => h) (Or.inr ⟨by rfl, rfl⟩) (by assumption) ?_
                try simp only [Act.put, List.setIfInBounds_toArray, List.set_cons_zero, List.set_cons_succ]
                refine wpAnyH_take (i := 21) (oi := ⟨_, _, _, _, _, _⟩) (v := undef) rfl (by kernel_rfl) (by kernel_rfl) (by kernel_rfl) (fun _ _ _ h => h) (Or.inr ⟨by rfl, rfl⟩) (by assumption) ?_
                try simp only [Act.put, List.setIfInBounds_toArray, List.set_cons_zero, List.set_cons_succ]
                refine wpAnyH_take (i := 22) (oi := ⟨_, _, _, _, _, _⟩) (v := undef) rfl (by kernel_rfl) (by kernel_rfl) (by kernel_rfl) (fun _ _ _ h => h) (Or.inr ⟨by rfl, rfl⟩) (by assumption) ?_
                try simp only [Act.put, List.setIfInBounds_toArray, List.set_cons_zero, List.set_cons_succ]
                refine wpAnyH_take (i := 23) (oi := ⟨_, _, _, _, _, _⟩) (v := undef) rfl (by kernel_rfl) (by kernel_rfl) (by kernel_rfl) (fun _ _ _ h => h) (Or.inr ⟨by rfl, rfl⟩) (by assumption) ?_
                try simp only [Act.put, List.setIfInBounds_toArray, List.set_cons_zero, List.set_cons_succ]
                refine wpAnyH_take (i := 24) (oi := ⟨_, _, _, _, _, _⟩) (v := undef) rfl (by kernel_rfl) (by kernel_rfl) (by kernel_rfl) (fun _ _ _ h => h) (Or.inr ⟨by rfl, rfl⟩) (by assumption) ?_
                try simp only [Act.put, List.setIfInBounds_toArray, List.set_cons_zero, List.set_cons_succ]
                refine wpAnyH_take (i := 25) (oi := ⟨_, _, _, _, _, _⟩) (v := ?vap8235q12n25) rfl (by kernel_rfl) (by kernel_rfl) (by kernel_rfl) (fun _ _ _ h => h) (Or.inl ⟨by rfl, ?hap8235q12n25⟩) (by assumption) ?_
                case hap8235q12n25 => (intro w hSw; (try dsimp only at hSw); go_simp; try with_reducible rfl)
                try simp only [Act.put, List.setIfInBounds_toArray, List.set_cons_zero, List.set_cons_succ]
                refine wpAnyH_done (by kernel_rfl) ?_ _
                go_wp2_with fail
                go_roundw
                case rel => exact ⟨t + 1, false, by omega, by go_num, rfl, by rw [HFT.out]; rfl, HB.out.trans (HW4.out.mono HB.out.size)⟩
                case measure => simp [intOf]; omega
            · obtain rfl : t = 4 := by omega
              rw [← HFS.out] at HFB
              go_wp2_with fail
              go_roundw
              case rel => exact ⟨i + 1, b, by omega, by go_num, rfl, HFB, HB⟩
              case measure => simp [intOf]; omega
        · obtain rfl : i = k := by omega
          rw [← HFB.out] at HNK
          cases b
          · have HN9 : Hid (nt (i + 1) = nt i) := HNK.out
            go_wp2_with fail
            go_roundw
            case rel => exact ⟨i + 1, by omega, by go_num, by rw [HN9.out], HB⟩
            case measure => simp [intOf]; omega
          · have HN9 : Hid (nt (i + 1) = nt i + 1) := HNK.out
            go_wp2_with fail
            go_roundw
            case rel => exact ⟨i + 1, by omega, by go_num, by rw [HN9.out]; go_num, HB⟩
            case measure => simp [intOf]; omega
    · obtain rfl : k = L.length := by omega
      have ht : decide ((L.length : Int) < (L.length : Int)) = false := by simp
      go_wp2_with fail
      go_ret
      exact ⟨rfl, HB2.out.trans (HB.out.mono HB2.out.size)⟩

set_option maxRecDepth 100000 in
set_option maxHeartbeats 8000000 in
theorem specCountClasses_yes4 (s : Nat) (hs2 : s = 4) (w : World) :
    Calls Tryd.prog 4 #[.int .i64 (s : Int)] w fun e w' => e = .returned (.int .i64 (refTo (hitB s) (allT s) (allT s).length : Nat)) ∧ Below w.heap.size w w' := by
  have hs : s = 2 ∨ s = 4 := by omega
  obtain ⟨hb1, hb2, hb3⟩ := fix_at hs
  have HLT := Lib.hid (specListT_sq s hs)
  have HRC := Lib.hid (specRectangle_yes s s (by omega) (by omega))
  have HSN : Hid (∀ t : Nat, t ≤ 3 → ∀ m v ls, ls ∈ allT s → ∀ B w, RdF elDomino w B v ls → B ≤ w.heap.size → Calls Tryd.prog 9 #[.int .i64 (s : Int), v, .int .i64 (t : Int), .bool m] w fun e w' => ∃ u, e = .returned u ∧ OwnF elDomino w' w.heap.size u (seenZ (s : Int) ls t m) ∧ Below w.heap.size w w') :=
    fun t ht m v ls hl B w h hB => lmovS s hs t ht m v ls hl B w h hB
  have HHB : Hid (∀ a b t, hitB s a b t = (decide (seenZ (s : Int) a t false = b) || decide (seenZ (s : Int) a t true = b))) := fun _ _ _ => rfl
  have HGL : Hid (∀ k (h : k < (allT s).length), getL (allT s) k = (allT s)[k]) := fun k h => by unfold Hid getL at *; simp [h]
  generalize rectZ s s = rz at *
  generalize allT s = L at *
  obtain ⟨hit, HHE⟩ : ∃ hit, Hid (hit = hitB s) := ⟨_, rfl⟩
  rw [← HHE.out] at HHB ⊢
  obtain ⟨sz, HSZ⟩ : ∃ sz, Hid ((fun ls t m => seenZ (s : Int) ls t m) = sz) := ⟨_, rfl⟩
  have hsz : ∀ ls t m, seenZ (s : Int) ls t m = sz ls t m := fun ls t m => by rw [← HSZ.out]
  simp only [hsz, Hid] at HSN HHB
  replace HSN := Lib.hid HSN; replace HHB := Lib.hid HHB
  have HN1 : Hid (∀ k, refTo hit L (k + 1) = if fstI hit L (getL L k) k then refTo hit L k + 1 else refTo hit L k) := fun _ => rfl
  have HN0 : Hid (refTo hit L 0 = 0) := rfl
  have HNL : Hid (∀ k, refTo hit L k ≤ k) := fun k => by
    induction k with
    | zero => exact Nat.le_refl _
    | succ k ih => rw [HN1.out]; split <;> omega
  obtain ⟨nt, HNT⟩ : ∃ nt, Hid (nt = refTo hit L) := ⟨_, rfl⟩
  rw [← HNT.out] at HN1 HN0 HNL ⊢
  clear HHE HSZ hsz HNT hb1 hb2
  have hc2' : ((s : Int) != 2) = true := by rw [hs2]; rfl
  have hc4' : ((s : Int) != 4) = false := by rw [hs2]; rfl
  clear hs2 hs
  go_enter Tryd.func4, Tryd.ntmps4
  go_wp2_with fail
  refine (HRC.out _).mono ?_
  rintro e w1 ⟨u1, rfl, hr1, hb1⟩
  have HB1 := Lib.hid hb1
  have HL := Lib.hid (HLT.out u1 _ w1 hr1 (Nat.le_refl _))
  clear hb1 hr1
  go_wp2_with fail
  refine HL.out.mono ?_
  rintro e w2 ⟨v2, hi2, rfl, hN2⟩
  have HB2 := Lib.hid (HB1.out.trans (hN2.choose_spec.1.2.1.mono HB1.out.size))
  obtain ⟨A2, c2, rfl, q1, q2, G⟩ := hN2.rdDL.open_
  unfold maxLen at q2
  have HG := Lib.hid G
  clear hN2 HL G
  go_wp2_with fail
  go_loopw [3, 5] (fun n i wr => ∃ k : Nat, k ≤ L.length ∧ i = .int .i64 (k : Int) ∧ n = .int .i64 (nt k : Nat) ∧ Hid (Below w2.heap.size w2 wr)) (fun _ i _ => L.length - (intOf i).toNat)
  case atStart => exact ⟨0, Nat.zero_le _, rfl, by rw [HN0.out]; rfl, Below.refl _ _⟩
  case round =>
    obtain ⟨k, hk, rfl, rfl, HB⟩ := hrel
    have hnk := HNL.out k
    by_cases hlt : k < L.length
    · have ht : decide ((k : Int) < (L.length : Int)) = true := by simp only [decide_eq_true_eq]; omega
      obtain ⟨ad, slk, rfl, hblk, hck, hxk⟩ := HG.out k hlt
      have HBK2 : Hid ((ad.add k).block < w2.heap.size) := by unfold Hid; rw [addBlock]; exact hblk
      have HNK : Hid (nt (k + 1) = if fstI hit L L[k] k then nt k + 1 else nt k) := by rw [← HGL.out k hlt]; exact HN1.out k
      generalize L[k] = lk at *
      obtain ⟨gk, nk, ck⟩ := slk
      obtain ⟨A3, c3', hv3, _, _, _⟩ := id hxk
      simp only [slV, Value.slice.injEq] at hv3
      obtain ⟨rfl, rfl, rfl⟩ := hv3
      have HCK : Hid (w2.cell? (ad.add k) = some (.slice gk lk.length ck)) := hck
      have HXK2 : Hid (RdF elDomino w2 w2.heap.size (.slice gk lk.length ck) lk) := hxk
      have HF1 : Hid (∀ i, fstI hit L lk (i + 1) = fstT (hit (getL L i) lk) (fstI hit L lk i) 4) := fun _ => rfl
      have HF0 : Hid (fstI hit L lk 0 = true) := rfl
      obtain ⟨fi, HFI⟩ : ∃ fi, Hid (fi = fstI hit L lk) := ⟨_, rfl⟩
      rw [← HFI.out] at HF1 HF0 HNK
      clear HFI hck hxk hblk
      have hk0 : (0 : Int) ≤ (k : Int) := by omega
      have hk1 : (k : Int) < (L.length : Int) := by omega
      go_wp2_with fail
      go_loopw [6, 7] (fun f x wi => ∃ (i : Nat) (b : Bool), i ≤ k ∧ x = .int .i64 (i : Int) ∧ f = .bool b ∧ Hid (b = fi i) ∧ Hid (Below w2.heap.size w2 wi)) (fun _ x _ => k - (intOf x).toNat)
      case atStart => exact ⟨0, true, Nat.zero_le _, rfl, rfl, HF0.out.symm, HB⟩
      case round =>
        clear HB
        obtain ⟨i, b, hik, rfl, rfl, HFB, HB⟩ := hrel
        by_cases hlk : i < k
        · have htk : decide ((i : Int) < (k : Int)) = true := by simp only [decide_eq_true_eq]; omega
          have hil : i < L.length := by omega
          obtain ⟨ad2, sli, had, hbli, hci, hxi⟩ := HG.out i hil
          obtain rfl : ad2 = ad := (Option.some.inj had).symm
          have HBI2 : Hid ((ad2.add i).block < w2.heap.size) := by unfold Hid; rw [addBlock]; exact hbli
          have HFS : Hid (fi (i + 1) = fstT (hit L[i] lk) (fi i) 4) := by rw [← HGL.out i hil]; exact HF1.out i
          have HMI := Lib.hid (List.getElem_mem hil)
          generalize L[i] = li at *
          obtain ⟨gi, ni, ci⟩ := sli
          obtain ⟨A5, c5', hv5, _, _, _⟩ := id hxi
          simp only [slV, Value.slice.injEq] at hv5
          obtain ⟨rfl, rfl, rfl⟩ := hv5
          have HCI : Hid (w2.cell? (ad2.add i) = some (.slice gi li.length ci)) := hci
          have HXI2 : Hid (RdF elDomino w2 w2.heap.size (.slice gi li.length ci) li) := hxi
          rw [← HFB.out] at HFS
          have HT1 : Hid (∀ t, fstT (hit li lk) b (t + 1) = if hit li lk t then false else fstT (hit li lk) b t) := fun _ => rfl
          have HT0 : Hid (fstT (hit li lk) b 0 = b) := rfl
          obtain ⟨ft, HFTE⟩ : ∃ ft, Hid (ft = fstT (hit li lk) b) := ⟨_, rfl⟩
          rw [← HFTE.out] at HT1 HT0 HFS
          clear HFTE hci hxi hbli had HFB
          have hi0 : (0 : Int) ≤ (i : Int) := by omega
          have hi1 : (i : Int) < (L.length : Int) := by omega
          go_wp2_with fail
          go_loopw [6, 8] (fun f x wi => ∃ (t : Nat) (b : Bool), t ≤ 4 ∧ x = .int .i64 (t : Int) ∧ f = .bool b ∧ Hid (b = ft t) ∧ Hid (Below w2.heap.size w2 wi)) (fun _ x _ => 4 - (intOf x).toNat)
          case atStart => exact ⟨0, b, Nat.zero_le _, rfl, rfl, HT0.out.symm, HB⟩
          case round =>
            clear HB
            obtain ⟨t, b, ht4, rfl, rfl, HFB, HB⟩ := hrel
            by_cases hlt4 : t < 4
            · have htt : decide ((t : Int) < 4) = true := by simp only [decide_eq_true_eq]; omega
              have ht0 : (0 : Int) ≤ (t : Int) := by omega
              have HFT := Lib.hid (HT1.out t)
              rw [HHB.out li lk t, ← HFB.out] at HFT
              have hS0 : TwoL wr (ad2.add i) (ad2.add k) gi gk li.length lk.length ci ck := ⟨(HB.out.cell HBI2.out).trans HCI.out, (HB.out.cell HBK2.out).trans HCK.out⟩
              have HBI : Hid ((ad2.add i).block < wr.heap.size) := Nat.lt_of_lt_of_le HBI2.out HB.out.size
              have HBK : Hid ((ad2.add k).block < wr.heap.size) := Nat.lt_of_lt_of_le HBK2.out HB.out.size
              have HXI := Lib.hid ((HXI2.out.below HB.out).more HB.out.size)
              have HXK := Lib.hid ((HXK2.out.below HB.out).more HB.out.size)
              have HSK := Lib.hid (fun m V (hb : Below wr.heap.size wr V) => HSN.out t (by omega) m _ li HMI.out _ V (HXI.out.below hb) hb.size)
              cases hq1 : decide (sz li t false = lk)
              · cases hq2 : decide (sz li t true = lk)
                · rw [hq1, hq2] at HFT
                  go_wp2_with fail
                  refine wp_region_held_drew (S := fun w' => TwoL w' (ad2.add i) (ad2.add k) gi gk li.length lk.length ci ck) (by kernel_rfl) (by exact hS0) (fun hHeld => ?_)
                  refine wpAnyH_take (i := 0) (oi := ⟨_, _, _, _, _, _⟩) (v := ?vap8233q1n0) rfl (by kernel_rfl) (by kernel_rfl) (by kernel_rfl) (fun _ _ _ h => h) (Or.inl ⟨by rfl, ?hap8233q1n0⟩) (by assumption) ?_
                  case hap8233q1n0 => (intro w hSw; (try dsimp only at hSw); go_simp; try with_reducible rfl)
                  try simp only [Act.put, List.setIfInBounds_toArray, List.set_cons_zero, List.set_cons_succ]
                  refine wpAnyH_take (i := 1) (oi := ⟨_, _, _, _, _, _⟩) (v := ?vap8233q2n1) rfl (by kernel_rfl) (by kernel_rfl) (by kernel_rfl) (fun _ _ _ h => h) (Or.inl ⟨by rfl, ?hap8233q2n1⟩) (by assumption) ?_
                  case hap8233q2n1 => (intro w hSw; (try dsimp only at hSw); go_simp; try with_reducible rfl)
                  try simp only [Act.put, List.setIfInBounds_toArray, List.set_cons_zero, List.set_cons_succ]
                  refine wpAnyH_take (i := 2) (oi := ⟨_, _, _, _, _, _⟩) (v := ?vap8233q3n2) rfl (by kernel_rfl) (by kernel_rfl) (by kernel_rfl) (fun _ _ _ h => h) (Or.inl ⟨by rfl, ?hap8233q3n2⟩) (by assumption) ?_
                  case hap8233q3n2 => (intro w hSw; (try dsimp only at hSw); go_simp; try with_reducible rfl)
                  try simp only [Act.put, List.setIfInBounds_toArray, List.set_cons_zero, List.set_cons_succ]
                  refine wpAnyH_take (i := 3) (oi := ⟨_, _, _, _, _, _⟩) (v := ?vap8233q4n3) rfl (by kernel_rfl) (by kernel_rfl) (by kernel_rfl) (fun _ _ _ h => h) (Or.inl ⟨by rfl, ?hap8233q4n3⟩) (by assumption) ?_
                  case hap8233q4n3 => (intro w hSw; (try dsimp only at hSw); go_simp; try with_reducible rfl)
                  try simp only [Act.put, List.setIfInBounds_toArray, List.set_cons_zero, List.set_cons_succ]
                  refine wpAnyH_take (i := 4) (oi := ⟨_, _, _, _, _, _⟩) (v := ?vap8233q5n4) rfl (by kernel_rfl) (by kernel_rfl) (by kernel_rfl) (fun _ _ _ h => h) (Or.inl ⟨by rfl, ?hap8233q5n4⟩) (by assumption) ?_
                  case hap8233q5n4 => (intro w hSw; (try dsimp only at hSw); go_simp; try with_reducible rfl)
                  try simp only [Act.put, List.setIfInBounds_toArray, List.set_cons_zero, List.set_cons_succ]
                  refine wpAnyH_take (i := 5) (oi := ⟨_, _, _, _, _, _⟩) (v := ?vap8233q6n5) rfl (by kernel_rfl) (by kernel_rfl) (by kernel_rfl) (fun _ _ _ h => h) (Or.inl ⟨by rfl, ?hap8233q6n5⟩) (by assumption) ?_
                  case hap8233q6n5 => (intro w hSw; (try dsimp only at hSw); go_simp; try with_reducible rfl)
                  try simp only [Act.put, List.setIfInBounds_toArray, List.set_cons_zero, List.set_cons_succ]
                  refine wpAnyH_take (i := 7) (oi := ⟨_, _, _, _, _, _⟩) (v := ?vap8233q7n7) rfl (by kernel_rfl) (by kernel_rfl) (by kernel_rfl) (fun _ _ _ h => h) (Or.inl ⟨by rfl, ?hap8233q7n7⟩) (by assumption) ?_
                  case hap8233q7n7 => (intro w hSw; (try dsimp only at hSw); go_simp; try with_reducible rfl)
                  try simp only [Act.put, List.setIfInBounds_toArray, List.set_cons_zero, List.set_cons_succ]
                  refine wpAnyH_take (i := 8) (oi := ⟨_, _, _, _, _, _⟩) (v := ?vap8233q8n8) rfl (by kernel_rfl) (by kernel_rfl) (by kernel_rfl) (fun _ _ _ h => h) (Or.inl ⟨by rfl, ?hap8233q8n8⟩) (by assumption) ?_
                  case hap8233q8n8 => (intro w hSw; (try dsimp only at hSw); go_simp; try with_reducible rfl)
                  try simp only [Act.put, List.setIfInBounds_toArray, List.set_cons_zero, List.set_cons_succ]
                  refine wpAnyH_take (i := 9) (oi := ⟨_, _, _, _, _, _⟩) (v := ?vap8233q9n9) rfl (by kernel_rfl) (by kernel_rfl) (by kernel_rfl) (fun _ _ _ h => h) (Or.inl ⟨by rfl, ?hap8233q9n9⟩) (by assumption) ?_
                  case hap8233q9n9 => (intro w hSw; (try dsimp only at hSw); go_simp; try with_reducible rfl)
                  try simp only [Act.put, List.setIfInBounds_toArray, List.set_cons_zero, List.set_cons_succ]
                  refine wpAnyH_take (i := 10) (oi := ⟨_, _, _, _, _, _⟩) (v := ?vap8233q10n10) rfl (by kernel_rfl) (by kernel_rfl) (by kernel_rfl) (fun _ _ _ h => h) (Or.inl ⟨by rfl, ?hap8233q10n10⟩) (by assumption) ?_
                  case hap8233q10n10 => (intro w hSw; (try dsimp only at hSw); go_simp; try with_reducible rfl)
                  try simp only [Act.put, List.setIfInBounds_toArray, List.set_cons_zero, List.set_cons_succ]
                  refine wpAnyH_ready (rs := [6]) (by kernel_rfl) (by simp) ?_
                  refine AllReadyH.cons (o := ⟨_, _, _, _, _, _⟩) rfl (fun K hK => ?_) AllReadyH.nil
                  go_simp
                  go_at_call 9
                  refine (HSK.out false _ (Below.refl _ _).drew).mono ?_
                  rintro e w3 ⟨u3, rfl, ho, hb9⟩
                  have HW3 : Hid (Below wr.heap.size wr w3) := (Below.refl wr.heap.size wr).drew.trans hb9
                  have hS3 := TwoL.below HW3.out HBI.out HBK.out hS0
                  have HSD := Lib.hid (specSameD_any u3 _ (sz li t false) lk w3.heap.size w3 (ho.rd okDomino) ((HXK.out.below HW3.out).more HW3.out.size) (Nat.le_refl _))
                  obtain ⟨A4, c4, hu9, _, _, _⟩ := ho.rd okDomino
                  subst hu9
                  clear hb9 ho
                  refine hK.out _ _ (by first | exact hS6 | exact hS5 | exact hS4 | exact hS3) (fun hHeld => ?_)
                  clear hK K
                  try simp only [Act.put, List.setIfInBounds_toArray, List.set_cons_zero, List.set_cons_succ]
                  refine wpAnyH_ready (rs := [11]) (by kernel_rfl) (by simp) ?_
                  refine AllReadyH.cons (o := ⟨_, _, _, _, _, _⟩) rfl (fun K hK => ?_) AllReadyH.nil
                  go_simp
                  go_at_call 8
                  refine HSD.out.mono ?_
                  rintro e w4 ⟨rfl, hd9⟩
                  have HW4 : Hid (Below wr.heap.size wr w4) := HW3.out.trans ((hd9.below w3.heap.size).mono HW3.out.size)
                  have hS4 := TwoL.below HW4.out HBI.out HBK.out hS0
                  clear hd9 HSD
                  rw [hq1]
                  refine hK.out _ _ (by first | exact hS6 | exact hS5 | exact hS4 | exact hS3) (fun hHeld => ?_)
                  clear hK K
                  try simp only [Act.put, List.setIfInBounds_toArray, List.set_cons_zero, List.set_cons_succ]
                  refine wpAnyH_take (i := 12) (oi := ⟨_, _, _, _, _, _⟩) (v := ?vap8233q11n12) rfl (by kernel_rfl) (by kernel_rfl) (by kernel_rfl) (fun _ _ _ h => h) (Or.inl ⟨by rfl, ?hap8233q11n12⟩) (by assumption) ?_
                  case hap8233q11n12 => (intro w hSw; (try dsimp only at hSw); go_simp; try with_reducible rfl)
                  try simp only [Act.put, List.setIfInBounds_toArray, List.set_cons_zero, List.set_cons_succ]
                  refine wpAnyH_take (i := 13) (oi := ⟨_, _, _, _, _, _⟩) (v := ?vap8233q12n13) rfl (by kernel_rfl) (by kernel_rfl) (by kernel_rfl) (fun _ _ _ h => h) (Or.inl ⟨by rfl, ?hap8233q12n13⟩) (by assumption) ?_
                  case hap8233q12n13 => (intro w hSw; (try dsimp only at hSw); go_simp; try with_reducible rfl)
                  try simp only [Act.put, List.setIfInBounds_toArray, List.set_cons_zero, List.set_cons_succ]
                  refine wpAnyH_take (i := 14) (oi := ⟨_, _, _, _, _, _⟩) (v := ?vap8233q13n14) rfl (by kernel_rfl) (by kernel_rfl) (by kernel_rfl) (fun _ _ _ h => h) (Or.inl ⟨by rfl, ?hap8233q13n14⟩) (by assumption) ?_
                  case hap8233q13n14 => (intro w hSw; (try dsimp only at hSw); go_simp; try with_reducible rfl)
                  try simp only [Act.put, List.setIfInBounds_toArray, List.set_cons_zero, List.set_cons_succ]
                  refine wpAnyH_take (i := 15) (oi := ⟨_, _, _, _, _, _⟩) (v := ?vap8233q14n15) rfl (by kernel_rfl) (by kernel_rfl) (by kernel_rfl) (fun _ _ _ h => h) (Or.inl ⟨by rfl, ?hap8233q14n15⟩) (by assumption) ?_
                  case hap8233q14n15 => (intro w hSw; (try dsimp only at hSw); go_simp; try with_reducible rfl)
                  try simp only [Act.put, List.setIfInBounds_toArray, List.set_cons_zero, List.set_cons_succ]
                  refine wpAnyH_take (i := 16) (oi := ⟨_, _, _, _, _, _⟩) (v := ?vap8233q15n16) rfl (by kernel_rfl) (by kernel_rfl) (by kernel_rfl) (fun _ _ _ h => h) (Or.inl ⟨by rfl, ?hap8233q15n16⟩) (by assumption) ?_
                  case hap8233q15n16 => (intro w hSw; (try dsimp only at hSw); go_simp; try with_reducible rfl)
                  try simp only [Act.put, List.setIfInBounds_toArray, List.set_cons_zero, List.set_cons_succ]
                  refine wpAnyH_take (i := 17) (oi := ⟨_, _, _, _, _, _⟩) (v := ?vap8233q16n17) rfl (by kernel_rfl) (by kernel_rfl) (by kernel_rfl) (fun _ _ _ h => h) (Or.inl ⟨by rfl, ?hap8233q16n17⟩) (by assumption) ?_
                  case hap8233q16n17 => (intro w hSw; (try dsimp only at hSw); go_simp; try with_reducible rfl)
                  try simp only [Act.put, List.setIfInBounds_toArray, List.set_cons_zero, List.set_cons_succ]
                  refine wpAnyH_take (i := 18) (oi := ⟨_, _, _, _, _, _⟩) (v := ?vap8233q17n18) rfl (by kernel_rfl) (by kernel_rfl) (by kernel_rfl) (fun _ _ _ h => h) (Or.inl ⟨by rfl, ?hap8233q17n18⟩) (by assumption) ?_
                  case hap8233q17n18 => (intro w hSw; (try dsimp only at hSw); go_simp; try with_reducible rfl)
                  try simp only [Act.put, List.setIfInBounds_toArray, List.set_cons_zero, List.set_cons_succ]
                  refine wpAnyH_take (i := 20) (oi := ⟨_, _, _, _, _, _⟩) (v := ?vap8233q18n20) rfl (by kernel_rfl) (by kernel_rfl) (by kernel_rfl) (fun _ _ _ h => h) (Or.inl ⟨by rfl, ?hap8233q18n20⟩) (by assumption) ?_
                  case hap8233q18n20 => (intro w hSw; (try dsimp only at hSw); go_simp; try with_reducible rfl)
                  try simp only [Act.put, List.setIfInBounds_toArray, List.set_cons_zero, List.set_cons_succ]
                  refine wpAnyH_take (i := 21) (oi := ⟨_, _, _, _, _, _⟩) (v := ?vap8233q19n21) rfl (by kernel_rfl) (by kernel_rfl) (by kernel_rfl) (fun _ _ _ h => h) (Or.inl ⟨by rfl, ?hap8233q19n21⟩) (by assumption) ?_
                  case hap8233q19n21 => (intro w hSw; (try dsimp only at hSw); go_simp; try with_reducible rfl)
                  try simp only [Act.put, List.setIfInBounds_toArray, List.set_cons_zero, List.set_cons_succ]
                  refine wpAnyH_take (i := 22) (oi := ⟨_, _, _, _, _, _⟩) (v := ?vap8233q20n22) rfl (by kernel_rfl) (by kernel_rfl) (by kernel_rfl) (fun _ _ _ h => h) (Or.inl ⟨by rfl, ?hap8233q20n22⟩) (by assumption) ?_
                  case hap8233q20n22 => (intro w hSw; (try dsimp only at hSw); go_simp; try with_reducible rfl)
                  try simp only [Act.put, List.setIfInBounds_toArray, List.set_cons_zero, List.set_cons_succ]
                  refine wpAnyH_take (i := 23) (oi := ⟨_, _, _, _, _, _⟩) (v := ?vap8233q21n23) rfl (by kernel_rfl) (by kernel_rfl) (by kernel_rfl) (fun _ _ _ h => h) (Or.inl ⟨by rfl, ?hap8233q21n23⟩) (by assumption) ?_
                  case hap8233q21n23 => (intro w hSw; (try dsimp only at hSw); go_simp; try with_reducible rfl)
                  try simp only [Act.put, List.setIfInBounds_toArray, List.set_cons_zero, List.set_cons_succ]
                  refine wpAnyH_ready (rs := [19]) (by kernel_rfl) (by simp) ?_
                  refine AllReadyH.cons (o := ⟨_, _, _, _, _, _⟩) rfl (fun K hK => ?_) AllReadyH.nil
                  go_simp
                  go_at_call 9
                  refine (HSK.out true _ HW4.out).mono ?_
                  rintro e w5 ⟨u5, rfl, ho, hb9⟩
                  have HW5 : Hid (Below wr.heap.size wr w5) := HW4.out.trans (hb9.mono HW4.out.size)
                  have hS5 := TwoL.below HW5.out HBI.out HBK.out hS0
                  have HSD := Lib.hid (specSameD_any u5 _ (sz li t true) lk w5.heap.size w5 (ho.rd okDomino) ((HXK.out.below HW5.out).more HW5.out.size) (Nat.le_refl _))
                  obtain ⟨A4, c4, hu9, _, _, _⟩ := ho.rd okDomino
                  subst hu9
                  clear hb9 ho
                  refine hK.out _ _ (by first | exact hS6 | exact hS5 | exact hS4 | exact hS3) (fun hHeld => ?_)
                  clear hK K
                  try simp only [Act.put, List.setIfInBounds_toArray, List.set_cons_zero, List.set_cons_succ]
                  refine wpAnyH_ready (rs := [24]) (by kernel_rfl) (by simp) ?_
                  refine AllReadyH.cons (o := ⟨_, _, _, _, _, _⟩) rfl (fun K hK => ?_) AllReadyH.nil
                  go_simp
                  go_at_call 8
                  refine HSD.out.mono ?_
                  rintro e w6 ⟨rfl, hd9⟩
                  have HW6 : Hid (Below wr.heap.size wr w6) := HW5.out.trans ((hd9.below w5.heap.size).mono HW5.out.size)
                  have hS6 := TwoL.below HW6.out HBI.out HBK.out hS0
                  clear hd9 HSD
                  rw [hq2]
                  refine hK.out _ _ (by first | exact hS6 | exact hS5 | exact hS4 | exact hS3) (fun hHeld => ?_)
                  clear hK K
                  try simp only [Act.put, List.setIfInBounds_toArray, List.set_cons_zero, List.set_cons_succ]
                  refine wpAnyH_take (i := 25) (oi := ⟨_, _, _, _, _, _⟩) (v := ?vap8233q22n25) rfl (by kernel_rfl) (by kernel_rfl) (by kernel_rfl) (fun _ _ _ h => h) (Or.inl ⟨by rfl, ?hap8233q22n25⟩) (by assumption) ?_
                  case hap8233q22n25 => (intro w hSw; (try dsimp only at hSw); go_simp; try with_reducible rfl)
                  try simp only [Act.put, List.setIfInBounds_toArray, List.set_cons_zero, List.set_cons_succ]
                  refine wpAnyH_done (by kernel_rfl) ?_ _
                  go_wp2_with fail
                  go_roundw
                  case rel => exact ⟨t + 1, b, by omega, by go_num, rfl, by rw [HFT.out]; rfl, HB.out.trans (HW6.out.mono HB.out.size)⟩
                  case measure => simp [intOf]; omega
                · rw [hq1, hq2] at HFT
                  go_wp2_with fail
                  refine wp_region_held_drew (S := fun w' => TwoL w' (ad2.add i) (ad2.add k) gi gk li.length lk.length ci ck) (by kernel_rfl) (by exact hS0) (fun hHeld => ?_)
                  refine wpAnyH_take (i := 0) (oi := ⟨_, _, _, _, _, _⟩) (v := ?vap8234q1n0) rfl (by kernel_rfl) (by kernel_rfl) (by kernel_rfl) (fun _ _ _ h => h) (Or.inl ⟨by rfl, ?hap8234q1n0⟩) (by assumption) ?_
                  case hap8234q1n0 => (intro w hSw; (try dsimp only at hSw); go_simp; try with_reducible rfl)
                  try simp only [Act.put, List.setIfInBounds_toArray, List.set_cons_zero, List.set_cons_succ]
                  refine wpAnyH_take (i := 1) (oi := ⟨_, _, _, _, _, _⟩) (v := ?vap8234q2n1) rfl (by kernel_rfl) (by kernel_rfl) (by kernel_rfl) (fun _ _ _ h => h) (Or.inl ⟨by rfl, ?hap8234q2n1⟩) (by assumption) ?_
                  case hap8234q2n1 => (intro w hSw; (try dsimp only at hSw); go_simp; try with_reducible rfl)
                  try simp only [Act.put, List.setIfInBounds_toArray, List.set_cons_zero, List.set_cons_succ]
                  refine wpAnyH_take (i := 2) (oi := ⟨_, _, _, _, _, _⟩) (v := ?vap8234q3n2) rfl (by kernel_rfl) (by kernel_rfl) (by kernel_rfl) (fun _ _ _ h => h) (Or.inl ⟨by rfl, ?hap8234q3n2⟩) (by assumption) ?_
                  case hap8234q3n2 => (intro w hSw; (try dsimp only at hSw); go_simp; try with_reducible rfl)
                  try simp only [Act.put, List.setIfInBounds_toArray, List.set_cons_zero, List.set_cons_succ]
                  refine wpAnyH_take (i := 3) (oi := ⟨_, _, _, _, _, _⟩) (v := ?vap8234q4n3) rfl (by kernel_rfl) (by kernel_rfl) (by kernel_rfl) (fun _ _ _ h => h) (Or.inl ⟨by rfl, ?hap8234q4n3⟩) (by assumption) ?_
                  case hap8234q4n3 => (intro w hSw; (try dsimp only at hSw); go_simp; try with_reducible rfl)
                  try simp only [Act.put, List.setIfInBounds_toArray, List.set_cons_zero, List.set_cons_succ]
                  refine wpAnyH_take (i := 4) (oi := ⟨_, _, _, _, _, _⟩) (v := ?vap8234q5n4) rfl (by kernel_rfl) (by kernel_rfl) (by kernel_rfl) (fun _ _ _ h => h) (Or.inl ⟨by rfl, ?hap8234q5n4⟩) (by assumption) ?_
                  case hap8234q5n4 => (intro w hSw; (try dsimp only at hSw); go_simp; try with_reducible rfl)
                  try simp only [Act.put, List.setIfInBounds_toArray, List.set_cons_zero, List.set_cons_succ]
                  refine wpAnyH_take (i := 5) (oi := ⟨_, _, _, _, _, _⟩) (v := ?vap8234q6n5) rfl (by kernel_rfl) (by kernel_rfl) (by kernel_rfl) (fun _ _ _ h => h) (Or.inl ⟨by rfl, ?hap8234q6n5⟩) (by assumption) ?_
                  case hap8234q6n5 => (intro w hSw; (try dsimp only at hSw); go_simp; try with_reducible rfl)
                  try simp only [Act.put, List.setIfInBounds_toArray, List.set_cons_zero, List.set_cons_succ]
                  refine wpAnyH_take (i := 7) (oi := ⟨_, _, _, _, _, _⟩) (v := ?vap8234q7n7) rfl (by kernel_rfl) (by kernel_rfl) (by kernel_rfl) (fun _ _ _ h => h) (Or.inl ⟨by rfl, ?hap8234q7n7⟩) (by assumption) ?_
                  case hap8234q7n7 => (intro w hSw; (try dsimp only at hSw); go_simp; try with_reducible rfl)
                  try simp only [Act.put, List.setIfInBounds_toArray, List.set_cons_zero, List.set_cons_succ]
                  refine wpAnyH_take (i := 8) (oi := ⟨_, _, _, _, _, _⟩) (v := ?vap8234q8n8) rfl (by kernel_rfl) (by kernel_rfl) (by kernel_rfl) (fun _ _ _ h => h) (Or.inl ⟨by rfl, ?hap8234q8n8⟩) (by assumption) ?_
                  case hap8234q8n8 => (intro w hSw; (try dsimp only at hSw); go_simp; try with_reducible rfl)
                  try simp only [Act.put, List.setIfInBounds_toArray, List.set_cons_zero, List.set_cons_succ]
                  refine wpAnyH_take (i := 9) (oi := ⟨_, _, _, _, _, _⟩) (v := ?vap8234q9n9) rfl (by kernel_rfl) (by kernel_rfl) (by kernel_rfl) (fun _ _ _ h => h) (Or.inl ⟨by rfl, ?hap8234q9n9⟩) (by assumption) ?_
                  case hap8234q9n9 => (intro w hSw; (try dsimp only at hSw); go_simp; try with_reducible rfl)
                  try simp only [Act.put, List.setIfInBounds_toArray, List.set_cons_zero, List.set_cons_succ]
                  refine wpAnyH_take (i := 10) (oi := ⟨_, _, _, _, _, _⟩) (v := ?vap8234q10n10) rfl (by kernel_rfl) (by kernel_rfl) (by kernel_rfl) (fun _ _ _ h => h) (Or.inl ⟨by rfl, ?hap8234q10n10⟩) (by assumption) ?_
                  case hap8234q10n10 => (intro w hSw; (try dsimp only at hSw); go_simp; try with_reducible rfl)
                  try simp only [Act.put, List.setIfInBounds_toArray, List.set_cons_zero, List.set_cons_succ]
                  refine wpAnyH_ready (rs := [6]) (by kernel_rfl) (by simp) ?_
                  refine AllReadyH.cons (o := ⟨_, _, _, _, _, _⟩) rfl (fun K hK => ?_) AllReadyH.nil
                  go_simp
                  go_at_call 9
                  refine (HSK.out false _ (Below.refl _ _).drew).mono ?_
                  rintro e w3 ⟨u3, rfl, ho, hb9⟩
                  have HW3 : Hid (Below wr.heap.size wr w3) := (Below.refl wr.heap.size wr).drew.trans hb9
                  have hS3 := TwoL.below HW3.out HBI.out HBK.out hS0
                  have HSD := Lib.hid (specSameD_any u3 _ (sz li t false) lk w3.heap.size w3 (ho.rd okDomino) ((HXK.out.below HW3.out).more HW3.out.size) (Nat.le_refl _))
                  obtain ⟨A4, c4, hu9, _, _, _⟩ := ho.rd okDomino
                  subst hu9
                  clear hb9 ho
                  refine hK.out _ _ (by first | exact hS6 | exact hS5 | exact hS4 | exact hS3) (fun hHeld => ?_)
                  clear hK K
                  try simp only [Act.put, List.setIfInBounds_toArray, List.set_cons_zero, List.set_cons_succ]
                  refine wpAnyH_ready (rs := [11]) (by kernel_rfl) (by simp) ?_
                  refine AllReadyH.cons (o := ⟨_, _, _, _, _, _⟩) rfl (fun K hK => ?_) AllReadyH.nil
                  go_simp
                  go_at_call 8
                  refine HSD.out.mono ?_
                  rintro e w4 ⟨rfl, hd9⟩
                  have HW4 : Hid (Below wr.heap.size wr w4) := HW3.out.trans ((hd9.below w3.heap.size).mono HW3.out.size)
                  have hS4 := TwoL.below HW4.out HBI.out HBK.out hS0
                  clear hd9 HSD
                  rw [hq1]
                  refine hK.out _ _ (by first | exact hS6 | exact hS5 | exact hS4 | exact hS3) (fun hHeld => ?_)
                  clear hK K
                  try simp only [Act.put, List.setIfInBounds_toArray, List.set_cons_zero, List.set_cons_succ]
                  refine wpAnyH_take (i := 12) (oi := ⟨_, _, _, _, _, _⟩) (v := ?vap8234q11n12) rfl (by kernel_rfl) (by kernel_rfl) (by kernel_rfl) (fun _ _ _ h => h) (Or.inl ⟨by rfl, ?hap8234q11n12⟩) (by assumption) ?_
                  case hap8234q11n12 => (intro w hSw; (try dsimp only at hSw); go_simp; try with_reducible rfl)
                  try simp only [Act.put, List.setIfInBounds_toArray, List.set_cons_zero, List.set_cons_succ]
                  refine wpAnyH_take (i := 13) (oi := ⟨_, _, _, _, _, _⟩) (v := ?vap8234q12n13) rfl (by kernel_rfl) (by kernel_rfl) (by kernel_rfl) (fun _ _ _ h => h) (Or.inl ⟨by rfl, ?hap8234q12n13⟩) (by assumption) ?_
                  case hap8234q12n13 => (intro w hSw; (try dsimp only at hSw); go_simp; try with_reducible rfl)
                  try simp only [Act.put, List.setIfInBounds_toArray, List.set_cons_zero, List.set_cons_succ]
                  refine wpAnyH_take (i := 14) (oi := ⟨_, _, _, _, _, _⟩) (v := ?vap8234q13n14) rfl (by kernel_rfl) (by kernel_rfl) (by kernel_rfl) (fun _ _ _ h => h) (Or.inl ⟨by rfl, ?hap8234q13n14⟩) (by assumption) ?_
                  case hap8234q13n14 => (intro w hSw; (try dsimp only at hSw); go_simp; try with_reducible rfl)
                  try simp only [Act.put, List.setIfInBounds_toArray, List.set_cons_zero, List.set_cons_succ]
                  refine wpAnyH_take (i := 15) (oi := ⟨_, _, _, _, _, _⟩) (v := ?vap8234q14n15) rfl (by kernel_rfl) (by kernel_rfl) (by kernel_rfl) (fun _ _ _ h => h) (Or.inl ⟨by rfl, ?hap8234q14n15⟩) (by assumption) ?_
                  case hap8234q14n15 => (intro w hSw; (try dsimp only at hSw); go_simp; try with_reducible rfl)
                  try simp only [Act.put, List.setIfInBounds_toArray, List.set_cons_zero, List.set_cons_succ]
                  refine wpAnyH_take (i := 16) (oi := ⟨_, _, _, _, _, _⟩) (v := ?vap8234q15n16) rfl (by kernel_rfl) (by kernel_rfl) (by kernel_rfl) (fun _ _ _ h => h) (Or.inl ⟨by rfl, ?hap8234q15n16⟩) (by assumption) ?_
                  case hap8234q15n16 => (intro w hSw; (try dsimp only at hSw); go_simp; try with_reducible rfl)
                  try simp only [Act.put, List.setIfInBounds_toArray, List.set_cons_zero, List.set_cons_succ]
                  refine wpAnyH_take (i := 17) (oi := ⟨_, _, _, _, _, _⟩) (v := ?vap8234q16n17) rfl (by kernel_rfl) (by kernel_rfl) (by kernel_rfl) (fun _ _ _ h => h) (Or.inl ⟨by rfl, ?hap8234q16n17⟩) (by assumption) ?_
                  case hap8234q16n17 => (intro w hSw; (try dsimp only at hSw); go_simp; try with_reducible rfl)
                  try simp only [Act.put, List.setIfInBounds_toArray, List.set_cons_zero, List.set_cons_succ]
                  refine wpAnyH_take (i := 18) (oi := ⟨_, _, _, _, _, _⟩) (v := ?vap8234q17n18) rfl (by kernel_rfl) (by kernel_rfl) (by kernel_rfl) (fun _ _ _ h => h) (Or.inl ⟨by rfl, ?hap8234q17n18⟩) (by assumption) ?_
                  case hap8234q17n18 => (intro w hSw; (try dsimp only at hSw); go_simp; try with_reducible rfl)
                  try simp only [Act.put, List.setIfInBounds_toArray, List.set_cons_zero, List.set_cons_succ]
                  refine wpAnyH_take (i := 20) (oi := ⟨_, _, _, _, _, _⟩) (v := ?vap8234q18n20) rfl (by kernel_rfl) (by kernel_rfl) (by kernel_rfl) (fun _ _ _ h => h) (Or.inl ⟨by rfl, ?hap8234q18n20⟩) (by assumption) ?_
                  case hap8234q18n20 => (intro w hSw; (try dsimp only at hSw); go_simp; try with_reducible rfl)
                  try simp only [Act.put, List.setIfInBounds_toArray, List.set_cons_zero, List.set_cons_succ]
                  refine wpAnyH_take (i := 21) (oi := ⟨_, _, _, _, _, _⟩) (v := ?vap8234q19n21) rfl (by kernel_rfl) (by kernel_rfl) (by kernel_rfl) (fun _ _ _ h => h) (Or.inl ⟨by rfl, ?hap8234q19n21⟩) (by assumption) ?_
                  case hap8234q19n21 => (intro w hSw; (try dsimp only at hSw); go_simp; try with_reducible rfl)
                  try simp only [Act.put, List.setIfInBounds_toArray, List.set_cons_zero, List.set_cons_succ]
                  refine wpAnyH_take (i := 22) (oi := ⟨_, _, _, _, _, _⟩) (v := ?vap8234q20n22) rfl (by kernel_rfl) (by kernel_rfl) (by kernel_rfl) (fun _ _ _ h => h) (Or.inl ⟨by rfl, ?hap8234q20n22⟩) (by assumption) ?_
                  case hap8234q20n22 => (intro w hSw; (try dsimp only at hSw); go_simp; try with_reducible rfl)
                  try simp only [Act.put, List.setIfInBounds_toArray, List.set_cons_zero, List.set_cons_succ]
                  refine wpAnyH_take (i := 23) (oi := ⟨_, _, _, _, _, _⟩) (v := ?vap8234q21n23) rfl (by kernel_rfl) (by kernel_rfl) (by kernel_rfl) (fun _ _ _ h => h) (Or.inl ⟨by rfl, ?hap8234q21n23⟩) (by assumption) ?_
                  case hap8234q21n23 => (intro w hSw; (try dsimp only at hSw); go_simp; try with_reducible rfl)
                  try simp only [Act.put, List.setIfInBounds_toArray, List.set_cons_zero, List.set_cons_succ]
                  refine wpAnyH_ready (rs := [19]) (by kernel_rfl) (by simp) ?_
                  refine AllReadyH.cons (o := ⟨_, _, _, _, _, _⟩) rfl (fun K hK => ?_) AllReadyH.nil
                  go_simp
                  go_at_call 9
                  refine (HSK.out true _ HW4.out).mono ?_
                  rintro e w5 ⟨u5, rfl, ho, hb9⟩
                  have HW5 : Hid (Below wr.heap.size wr w5) := HW4.out.trans (hb9.mono HW4.out.size)
                  have hS5 := TwoL.below HW5.out HBI.out HBK.out hS0
                  have HSD := Lib.hid (specSameD_any u5 _ (sz li t true) lk w5.heap.size w5 (ho.rd okDomino) ((HXK.out.below HW5.out).more HW5.out.size) (Nat.le_refl _))
                  obtain ⟨A4, c4, hu9, _, _, _⟩ := ho.rd okDomino
                  subst hu9
                  clear hb9 ho
                  refine hK.out _ _ (by first | exact hS6 | exact hS5 | exact hS4 | exact hS3) (fun hHeld => ?_)
                  clear hK K
                  try simp only [Act.put, List.setIfInBounds_toArray, List.set_cons_zero, List.set_cons_succ]
                  refine wpAnyH_ready (rs := [24]) (by kernel_rfl) (by simp) ?_
                  refine AllReadyH.cons (o := ⟨_, _, _, _, _, _⟩) rfl (fun K hK => ?_) AllReadyH.nil
                  go_simp
                  go_at_call 8
                  refine HSD.out.mono ?_
                  rintro e w6 ⟨rfl, hd9⟩
                  have HW6 : Hid (Below wr.heap.size wr w6) := HW5.out.trans ((hd9.below w5.heap.size).mono HW5.out.size)
                  have hS6 := TwoL.below HW6.out HBI.out HBK.out hS0
                  clear hd9 HSD
                  rw [hq2]
                  refine hK.out _ _ (by first | exact hS6 | exact hS5 | exact hS4 | exact hS3) (fun hHeld => ?_)
                  clear hK K
                  try simp only [Act.put, List.setIfInBounds_toArray, List.set_cons_zero, List.set_cons_succ]
                  refine wpAnyH_take (i := 25) (oi := ⟨_, _, _, _, _, _⟩) (v := ?vap8234q22n25) rfl (by kernel_rfl) (by kernel_rfl) (by kernel_rfl) (fun _ _ _ h => h) (Or.inl ⟨by rfl, ?hap8234q22n25⟩) (by assumption) ?_
                  case hap8234q22n25 => (intro w hSw; (try dsimp only at hSw); go_simp; try with_reducible rfl)
                  try simp only [Act.put, List.setIfInBounds_toArray, List.set_cons_zero, List.set_cons_succ]
                  refine wpAnyH_done (by kernel_rfl) ?_ _
                  go_wp2_with fail
                  go_roundw
                  case rel => exact ⟨t + 1, false, by omega, by go_num, rfl, by rw [HFT.out]; rfl, HB.out.trans (HW6.out.mono HB.out.size)⟩
                  case measure => simp [intOf]; omega
              · rw [hq1] at HFT
                go_wp2_with fail
                refine wp_region_held_drew (S := fun w' => TwoL w' (ad2.add i) (ad2.add k) gi gk li.length lk.length ci ck) (by kernel_rfl) (by exact hS0) (fun hHeld => ?_)
                refine wpAnyH_take (i := 0) (oi := ⟨_, _, _, _, _, _⟩) (v := ?vap8235q1n0) rfl (by kernel_rfl) (by kernel_rfl) (by kernel_rfl) (fun _ _ _ h => h) (Or.inl ⟨by rfl, ?hap8235q1n0⟩) (by assumption) ?_
                case hap8235q1n0 => (intro w hSw; (try dsimp only at hSw); go_simp; try with_reducible rfl)
                try simp only [Act.put, List.setIfInBounds_toArray, List.set_cons_zero, List.set_cons_succ]
                refine wpAnyH_take (i := 1) (oi := ⟨_, _, _, _, _, _⟩) (v := ?vap8235q2n1) rfl (by kernel_rfl) (by kernel_rfl) (by kernel_rfl) (fun _ _ _ h => h) (Or.inl ⟨by rfl, ?hap8235q2n1⟩) (by assumption) ?_
                case hap8235q2n1 => (intro w hSw; (try dsimp only at hSw); go_simp; try with_reducible rfl)
                try simp only [Act.put, List.setIfInBounds_toArray, List.set_cons_zero, List.set_cons_succ]
                refine wpAnyH_take (i := 2) (oi := ⟨_, _, _, _, _, _⟩) (v := ?vap8235q3n2) rfl (by kernel_rfl) (by kernel_rfl) (by kernel_rfl) (fun _ _ _ h => h) (Or.inl ⟨by rfl, ?hap8235q3n2⟩) (by assumption) ?_
                case hap8235q3n2 => (intro w hSw; (try dsimp only at hSw); go_simp; try with_reducible rfl)
                try simp only [Act.put, List.setIfInBounds_toArray, List.set_cons_zero, List.set_cons_succ]
                refine wpAnyH_take (i := 3) (oi := ⟨_, _, _, _, _, _⟩) (v := ?vap8235q4n3) rfl (by kernel_rfl) (by kernel_rfl) (by kernel_rfl) (fun _ _ _ h => h) (Or.inl ⟨by rfl, ?hap8235q4n3⟩) (by assumption) ?_
                case hap8235q4n3 => (intro w hSw; (try dsimp only at hSw); go_simp; try with_reducible rfl)
                try simp only [Act.put, List.setIfInBounds_toArray, List.set_cons_zero, List.set_cons_succ]
                refine wpAnyH_take (i := 4) (oi := ⟨_, _, _, _, _, _⟩) (v := ?vap8235q5n4) rfl (by kernel_rfl) (by kernel_rfl) (by kernel_rfl) (fun _ _ _ h => h) (Or.inl ⟨by rfl, ?hap8235q5n4⟩) (by assumption) ?_
                case hap8235q5n4 => (intro w hSw; (try dsimp only at hSw); go_simp; try with_reducible rfl)
                try simp only [Act.put, List.setIfInBounds_toArray, List.set_cons_zero, List.set_cons_succ]
                refine wpAnyH_take (i := 5) (oi := ⟨_, _, _, _, _, _⟩) (v := ?vap8235q6n5) rfl (by kernel_rfl) (by kernel_rfl) (by kernel_rfl) (fun _ _ _ h => h) (Or.inl ⟨by rfl, ?hap8235q6n5⟩) (by assumption) ?_
                case hap8235q6n5 => (intro w hSw; (try dsimp only at hSw); go_simp; try with_reducible rfl)
                try simp only [Act.put, List.setIfInBounds_toArray, List.set_cons_zero, List.set_cons_succ]
                refine wpAnyH_take (i := 7) (oi := ⟨_, _, _, _, _, _⟩) (v := ?vap8235q7n7) rfl (by kernel_rfl) (by kernel_rfl) (by kernel_rfl) (fun _ _ _ h => h) (Or.inl ⟨by rfl, ?hap8235q7n7⟩) (by assumption) ?_
                case hap8235q7n7 => (intro w hSw; (try dsimp only at hSw); go_simp; try with_reducible rfl)
                try simp only [Act.put, List.setIfInBounds_toArray, List.set_cons_zero, List.set_cons_succ]
                refine wpAnyH_take (i := 8) (oi := ⟨_, _, _, _, _, _⟩) (v := ?vap8235q8n8) rfl (by kernel_rfl) (by kernel_rfl) (by kernel_rfl) (fun _ _ _ h => h) (Or.inl ⟨by rfl, ?hap8235q8n8⟩) (by assumption) ?_
                case hap8235q8n8 => (intro w hSw; (try dsimp only at hSw); go_simp; try with_reducible rfl)
                try simp only [Act.put, List.setIfInBounds_toArray, List.set_cons_zero, List.set_cons_succ]
                refine wpAnyH_take (i := 9) (oi := ⟨_, _, _, _, _, _⟩) (v := ?vap8235q9n9) rfl (by kernel_rfl) (by kernel_rfl) (by kernel_rfl) (fun _ _ _ h => h) (Or.inl ⟨by rfl, ?hap8235q9n9⟩) (by assumption) ?_
                case hap8235q9n9 => (intro w hSw; (try dsimp only at hSw); go_simp; try with_reducible rfl)
                try simp only [Act.put, List.setIfInBounds_toArray, List.set_cons_zero, List.set_cons_succ]
                refine wpAnyH_take (i := 10) (oi := ⟨_, _, _, _, _, _⟩) (v := ?vap8235q10n10) rfl (by kernel_rfl) (by kernel_rfl) (by kernel_rfl) (fun _ _ _ h => h) (Or.inl ⟨by rfl, ?hap8235q10n10⟩) (by assumption) ?_
                case hap8235q10n10 => (intro w hSw; (try dsimp only at hSw); go_simp; try with_reducible rfl)
                try simp only [Act.put, List.setIfInBounds_toArray, List.set_cons_zero, List.set_cons_succ]
                refine wpAnyH_ready (rs := [6]) (by kernel_rfl) (by simp) ?_
                refine AllReadyH.cons (o := ⟨_, _, _, _, _, _⟩) rfl (fun K hK => ?_) AllReadyH.nil
                go_simp
                go_at_call 9
                refine (HSK.out false _ (Below.refl _ _).drew).mono ?_
                rintro e w3 ⟨u3, rfl, ho, hb9⟩
                have HW3 : Hid (Below wr.heap.size wr w3) := (Below.refl wr.heap.size wr).drew.trans hb9
                have hS3 := TwoL.below HW3.out HBI.out HBK.out hS0
                have HSD := Lib.hid (specSameD_any u3 _ (sz li t false) lk w3.heap.size w3 (ho.rd okDomino) ((HXK.out.below HW3.out).more HW3.out.size) (Nat.le_refl _))
                obtain ⟨A4, c4, hu9, _, _, _⟩ := ho.rd okDomino
                subst hu9
                clear hb9 ho
                refine hK.out _ _ (by first | exact hS6 | exact hS5 | exact hS4 | exact hS3) (fun hHeld => ?_)
                clear hK K
                try simp only [Act.put, List.setIfInBounds_toArray, List.set_cons_zero, List.set_cons_succ]
                refine wpAnyH_ready (rs := [11]) (by kernel_rfl) (by simp) ?_
                refine AllReadyH.cons (o := ⟨_, _, _, _, _, _⟩) rfl (fun K hK => ?_) AllReadyH.nil
                go_simp
                go_at_call 8
                refine HSD.out.mono ?_
                rintro e w4 ⟨rfl, hd9⟩
                have HW4 : Hid (Below wr.heap.size wr w4) := HW3.out.trans ((hd9.below w3.heap.size).mono HW3.out.size)
                have hS4 := TwoL.below HW4.out HBI.out HBK.out hS0
                clear hd9 HSD
                rw [hq1]
                refine hK.out _ _ (by first | exact hS6 | exact hS5 | exact hS4 | exact hS3) (fun hHeld => ?_)
                clear hK K
                try simp only [Act.put, List.setIfInBounds_toArray, List.set_cons_zero, List.set_cons_succ]
                refine wpAnyH_take (i := 12) (oi := ⟨_, _, _, _, _, _⟩) (v := ?vap8235q11n12) rfl (by kernel_rfl) (by kernel_rfl) (by kernel_rfl) (fun _ _ _ h => h) (Or.inl ⟨by rfl, ?hap8235q11n12⟩) (by assumption) ?_
                case hap8235q11n12 => (intro w hSw; (try dsimp only at hSw); go_simp; try with_reducible rfl)
                try simp only [Act.put, List.setIfInBounds_toArray, List.set_cons_zero, List.set_cons_succ]
                refine wpAnyH_take (i := 13) (oi := ⟨_, _, _, _, _, _⟩) (v := undef) rfl (by kernel_rfl) (by kernel_rfl) (by kernel_rfl) (fun _ _ _ h => h) (Or.inr ⟨by rfl, rfl⟩) (by assumption) ?_
                try simp only [Act.put, List.setIfInBounds_toArray, List.set_cons_zero, List.set_cons_succ]
                refine wpAnyH_take (i := 14) (oi := ⟨_, _, _, _, _, _⟩) (v := undef) rfl (by kernel_rfl) (by kernel_rfl) (by kernel_rfl) (fun _ _ _ h => h) (Or.inr ⟨by rfl, rfl⟩) (by assumption) ?_
                try simp only [Act.put, List.setIfInBounds_toArray, List.set_cons_zero, List.set_cons_succ]
                refine wpAnyH_take (i := 15) (oi := ⟨_, _, _, _, _, _⟩) (v := undef) rfl (by kernel_rfl) (by kernel_rfl) (by kernel_rfl) (fun _ _ _ h => h) (Or.inr ⟨by rfl, rfl⟩) (by assumption) ?_
                try simp only [Act.put, List.setIfInBounds_toArray, List.set_cons_zero, List.set_cons_succ]
                refine wpAnyH_take (i := 16) (oi := ⟨_, _, _, _, _, _⟩) (v := undef) rfl (by kernel_rfl) (by kernel_rfl) (by kernel_rfl) (fun _ _ _ h => h) (Or.inr ⟨by rfl, rfl⟩) (by assumption) ?_
                try simp only [Act.put, List.setIfInBounds_toArray, List.set_cons_zero, List.set_cons_succ]
                refine wpAnyH_take (i := 17) (oi := ⟨_, _, _, _, _, _⟩) (v := undef) rfl (by kernel_rfl) (by kernel_rfl) (by kernel_rfl) (fun _ _ _ h => h) (Or.inr ⟨by rfl, rfl⟩) (by assumption) ?_
                try simp only [Act.put, List.setIfInBounds_toArray, List.set_cons_zero, List.set_cons_succ]
                refine wpAnyH_take (i := 18) (oi := ⟨_, _, _, _, _, _⟩) (v := undef) rfl (by kernel_rfl) (by kernel_rfl) (by kernel_rfl) (fun _ _ _ h => h) (Or.inr ⟨by rfl, rfl⟩) (by assumption) ?_
                try simp only [Act.put, List.setIfInBounds_toArray, List.set_cons_zero, List.set_cons_succ]
                refine wpAnyH_take (i := 19) (oi := ⟨_, _, _, _, _, _⟩) (v := undef) rfl (by kernel_rfl) (by kernel_rfl) (by kernel_rfl) (fun _ _ _ h => h) (Or.inr ⟨by rfl, rfl⟩) (by assumption) ?_
                try simp only [Act.put, List.setIfInBounds_toArray, List.set_cons_zero, List.set_cons_succ]
                refine wpAnyH_take (i := 20) (oi := ⟨_, _, _, _, _, _⟩) (v := undef) rfl (by kernel_rfl) (by kernel_rfl) (by kernel_rfl) (fun _ _ _ h => h) (Or.inr ⟨by rfl, rfl⟩) (by assumption) ?_
                try simp only [Act.put, List.setIfInBounds_toArray, List.set_cons_zero, List.set_cons_succ]
                refine wpAnyH_take (i := 21) (oi := ⟨_, _, _, _, _, _⟩) (v := undef) rfl (by kernel_rfl) (by kernel_rfl) (by kernel_rfl) (fun _ _ _ h => h) (Or.inr ⟨by rfl, rfl⟩) (by assumption) ?_
                try simp only [Act.put, List.setIfInBounds_toArray, List.set_cons_zero, List.set_cons_succ]
                refine wpAnyH_take (i := 22) (oi := ⟨_, _, _, _, _, _⟩) (v := undef) rfl (by kernel_rfl) (by kernel_rfl) (by kernel_rfl) (fun _ _ _ h => h) (Or.inr ⟨by rfl, rfl⟩) (by assumption) ?_
                try simp only [Act.put, List.setIfInBounds_toArray, List.set_cons_zero, List.set_cons_succ]
                refine wpAnyH_take (i := 23) (oi := ⟨_, _, _, _, _, _⟩) (v := undef) rfl (by kernel_rfl) (by kernel_rfl) (by kernel_rfl) (fun _ _ _ h => h) (Or.inr ⟨by rfl, rfl⟩) (by assumption) ?_
                try simp only [Act.put, List.setIfInBounds_toArray, List.set_cons_zero, List.set_cons_succ]
                refine wpAnyH_take (i := 24) (oi := ⟨_, _, _, _, _, _⟩) (v := undef) rfl (by kernel_rfl) (by kernel_rfl) (by kernel_rfl) (fun _ _ _ h => h) (Or.inr ⟨by rfl, rfl⟩) (by assumption) ?_
                try simp only [Act.put, List.setIfInBounds_toArray, List.set_cons_zero, List.set_cons_succ]
                refine wpAnyH_take (i := 25) (oi := ⟨_, _, _, _, _, _⟩) (v := ?vap8235q12n25) rfl (by kernel_rfl) (by kernel_rfl) (by kernel_rfl) (fun _ _ _ h => h) (Or.inl ⟨by rfl, ?hap8235q12n25⟩) (by assumption) ?_
                case hap8235q12n25 => (intro w hSw; (try dsimp only at hSw); go_simp; try with_reducible rfl)
                try simp only [Act.put, List.setIfInBounds_toArray, List.set_cons_zero, List.set_cons_succ]
                refine wpAnyH_done (by kernel_rfl) ?_ _
                go_wp2_with fail
                go_roundw
                case rel => exact ⟨t + 1, false, by omega, by go_num, rfl, by rw [HFT.out]; rfl, HB.out.trans (HW4.out.mono HB.out.size)⟩
                case measure => simp [intOf]; omega
            · obtain rfl : t = 4 := by omega
              rw [← HFS.out] at HFB
              go_wp2_with fail
              go_roundw
              case rel => exact ⟨i + 1, b, by omega, by go_num, rfl, HFB, HB⟩
              case measure => simp [intOf]; omega
        · obtain rfl : i = k := by omega
          rw [← HFB.out] at HNK
          cases b
          · have HN9 : Hid (nt (i + 1) = nt i) := HNK.out
            go_wp2_with fail
            go_roundw
            case rel => exact ⟨i + 1, by omega, by go_num, by rw [HN9.out], HB⟩
            case measure => simp [intOf]; omega
          · have HN9 : Hid (nt (i + 1) = nt i + 1) := HNK.out
            go_wp2_with fail
            go_roundw
            case rel => exact ⟨i + 1, by omega, by go_num, by rw [HN9.out]; go_num, HB⟩
            case measure => simp [intOf]; omega
    · obtain rfl : k = L.length := by omega
      have ht : decide ((L.length : Int) < (L.length : Int)) = false := by simp
      go_wp2_with fail
      go_ret
      exact ⟨rfl, HB2.out.trans (HB.out.mono HB2.out.size)⟩
end Go.Proofs.YtehnbalbpfmijaaDoor
