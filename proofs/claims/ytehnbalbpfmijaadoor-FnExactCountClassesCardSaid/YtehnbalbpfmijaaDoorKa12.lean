/- What the claim's walk rests on: parts ClsI, FixS. -/
import Derived.Test.YtehnbalbpfmijaaDoorKa8
import Derived.Test.YtehnbalbpfmijaaDoorKa11
namespace Go.Proofs.YtehnbalbpfmijaaDoor
open Go.RowKit
set_option linter.unusedVariables false

theorem zeroB (w : World) : (zeroValue 4).run Tryd.prog w = .ok (.bool false) w := by kernel_rfl
abbrev Kn (w : World) (b n : Nat) (S : List (List UInt8)) : Prop := Knows Tryd.prog 9 4 w b n S
/-- What a round keeps: old cells, and the map. -/
def KRel (w w2 wr : World) (n : Nat) (S : List (List UInt8)) : Prop :=
  Below w.heap.size w wr ∧ w2.heap.size ≤ wr.heap.size ∧ (∀ p : Addr, p.block < w2.heap.size → wr.cell? p = w2.cell? p) ∧ Kn wr w.heap.size n S ∧ w.heap.size < w2.heap.size
theorem KRel.below {w w2 wr w' : World} {n : Nat} {S : List (List UInt8)} (h : KRel w w2 wr n S) (hb : Below wr.heap.size wr w') : KRel w w2 w' n S := by
  obtain ⟨h1, h2, h3, h4, h5⟩ := h
  exact ⟨h1.trans (hb.mono h1.size), Nat.le_trans h2 hb.size, fun p hp => (hb.cell (Nat.lt_of_lt_of_le hp h2)).trans (h3 p hp), h4.below hb h4.lt, h5⟩
theorem KRel.put {w w2 wr w' : World} {n n' : Nat} {S S' : List (List UInt8)} (h : KRel w w2 wr n S) (hk : Kn w' w.heap.size n' S') (hg : wr.grownBy w' (some w.heap.size)) : KRel w w2 w' n' S' := by
  obtain ⟨h1, h2, h3, h4, h5⟩ := h
  exact ⟨h1.grown hg h1.size fun k hk => by simp only [Option.some.injEq] at hk; omega, Nat.le_trans h2 hg.size, fun p hp => (h4.cells hk hg p (Nat.lt_of_lt_of_le hp h2)).trans (h3 p hp), hk, h5⟩
theorem KRel.more {w w2 wr : World} {n n' : Nat} {S : List (List UInt8)} (h : KRel w w2 wr n S) (hn : n ≤ n') : KRel w w2 wr n' S := ⟨h.1, h.2.1, h.2.2.1, h.2.2.2.1.mono hn, h.2.2.2.2⟩
theorem RdF.krel {w w2 wr : World} {n : Nat} {S : List (List UInt8)} {v : Value} {xs : List Lk} (h : RdF elDomino w2 w2.heap.size v xs) (hk : KRel w w2 wr n S) : RdF elDomino wr wr.heap.size v xs :=
  (h.keep fun p hp => hk.2.2.1 p hp).more hk.2.1
theorem img_all {s : Nat} (hs : s = 2 ∨ s = 4) {ls : List Lk} (h : ls ∈ allT s) : ls.all domL = true ∧ ls.length ≤ 8 := img_ok hs h (t := 0) (by omega) false

set_option maxRecDepth 100000 in
set_option maxHeartbeats 4000000 in
theorem CountClasses_yes2 (s : Nat) (hs2 : s = 2) (w : World) :
    Calls Tryd.prog 5 #[.int .i64 (s : Int)] w fun e w' => e = .returned (.int .i64 (clsN s : Nat)) ∧ Below w.heap.size w w' := by
  have hs : s = 2 ∨ s = 4 := by omega
  obtain ⟨hb1, hb2, hb3⟩ := fix_at hs
  have HCN : Hid (clsN s = (stTo s (allT s) (allT s).length).1) := rfl
  rw [HCN.out]
  have HLT := Lib.hid (ListT_sq s hs)
  have HRC := Lib.hid (Rectangle_yes s s (by omega) (by omega))
  have HSN : Hid (∀ j : Nat, j < 8 → ∀ v ls B w, RdF elDomino w B v ls → B ≤ w.heap.size → Calls Tryd.prog 13 #[.int .i64 (s : Int), v, .int .i64 ((j : Int) % 4), .bool (decide (4 ≤ (j : Int)))] w (RetRd w (imgZ s ls j))) := fun j hj v ls B w h hB => by
    have h1 := seen_loop (s : Int) (j % 4) (by omega) v ls (decide (4 ≤ j)) B w h hB
    have e1 : ((j % 4 : Nat) : Int) = (j : Int) % 4 := by omega
    have e2 : decide (4 ≤ (j : Int)) = decide (4 ≤ j) := by rw [decide_eq_decide]; omega
    rw [e2, ← e1]
    exact h1
  have HIM : Hid (∀ j : Nat, j < 8 → ∀ ls, ls ∈ allT s → (imgZ s ls j).all domL = true ∧ (imgZ s ls j).length ≤ 8) := fun j hj ls h => img_ok hs h (by omega) _
  have HAL : Hid (∀ ls, ls ∈ allT s → ls.all domL = true ∧ ls.length ≤ 8) := fun ls h => img_all hs h
  have HTT := Lib.hid (fun v ls B w h hB hd hn => TilingText_ok v ls B w h hB hd hn)
  have HTLN : Hid (∀ ls : List Lk, ls.length ≤ 8 → (textZ ls).length ≤ 40) := fun ls h => Nat.le_trans (text_len ls) (by omega)
  have HGL : Hid (∀ k (h : k < (allT s).length), getL (allT s) k = (allT s)[k]) := fun k h => by unfold Hid getL at *; simp [h]
  have HSI : Hid (∀ k, decide (textZ (getL (allT s) k) ∈ (stTo s (allT s) k).2) = true → (stTo s (allT s) (k + 1)).1 = (stTo s (allT s) k).1 ∧ (stTo s (allT s) (k + 1)).2 = (stTo s (allT s) k).2) := fun k h => by
    rw [st_in h]; exact ⟨rfl, rfl⟩
  have HSO : Hid (∀ k, decide (textZ (getL (allT s) k) ∈ (stTo s (allT s) k).2) = false → (stTo s (allT s) (k + 1)).1 = (stTo s (allT s) k).1 + 1 ∧ (stTo s (allT s) (k + 1)).2 = knTo (fun j => textZ (imgZ s (getL (allT s) k) j)) (stTo s (allT s) k).2 8) := fun k h => by
    rw [st_out h]; exact ⟨rfl, rfl⟩
  have HLE : Hid (∀ k, (stTo s (allT s) k).1 ≤ k) := st_le s (allT s)
  have H01 : Hid ((stTo s (allT s) 0).1 = 0) := rfl
  have H02 : Hid ((stTo s (allT s) 0).2 = []) := rfl
  generalize rectZ s s = rz at *
  generalize allT s = L at *
  obtain ⟨ct, HCT⟩ : ∃ ct : Nat → Nat, Hid (ct = fun k => (stTo s L k).1) := ⟨_, rfl⟩
  obtain ⟨kn, HKN⟩ : ∃ kn : Nat → List (List UInt8), Hid (kn = fun k => (stTo s L k).2) := ⟨_, rfl⟩
  have hct : ∀ k, (stTo s L k).1 = ct k := fun k => by rw [HCT.out]
  have hkn : ∀ k, (stTo s L k).2 = kn k := fun k => by rw [HKN.out]
  simp only [hct, hkn, Hid] at HSI HSO HLE H01 H02
  rw [hct]
  replace HSI := Lib.hid HSI; replace HSO := Lib.hid HSO; replace HLE := Lib.hid HLE; replace H01 := Lib.hid H01; replace H02 := Lib.hid H02
  clear HCN HCT HKN hct hkn hb1 hb2
  obtain ⟨im, HIME⟩ : ∃ im : List Lk → Nat → List Lk, Hid (im = imgZ s) := ⟨_, rfl⟩
  rw [← HIME.out] at HSN HIM HSO
  obtain ⟨tx, HTXE⟩ : ∃ tx : List Lk → List UInt8, Hid (tx = textZ) := ⟨_, rfl⟩
  rw [← HTXE.out] at HTT HTLN HSI HSO
  clear HIME HTXE
  have hc2' : ((s : Int) != 2) = false := by rw [hs2]; rfl
  have hmm := @run_makeMap Tryd.prog
  clear hs2 hs
  go_enter Tryd.func5, Tryd.ntmps5
  go_wp2_with fail
  obtain ⟨V0, hV0, k9, hbV0⟩ := one_alloc w (.map #[] 0)
  have HKV : Hid (Kn V0 w.heap.size 0 []) := by unfold Hid Kn; rw [hV0]; exact Knows.made w
  rw [← hV0]
  have HBV := Lib.hid hbV0
  clear hV0 k9 hbV0 hmm
  refine (HRC.out _).mono ?_
  rintro e w1 ⟨u1, rfl, hr1, hb1⟩
  have HK1 := Lib.hid (HKV.out.below hb1 HKV.out.lt)
  have HB1 := Lib.hid (HBV.out.trans (hb1.mono HBV.out.size))
  have HL := Lib.hid (HLT.out u1 _ w1 hr1 (Nat.le_refl _))
  clear hb1 hr1
  go_wp2_with fail
  refine HL.out.mono ?_
  rintro e w2 ⟨v2, hi2, rfl, hN2⟩
  have HBN : Hid (Below w1.heap.size w1 w2) := hN2.choose_spec.1.2.1
  have HK2 := Lib.hid (HK1.out.below HBN.out HK1.out.lt)
  have HB2 := Lib.hid (HB1.out.trans (HBN.out.mono HB1.out.size))
  have HR0 : Hid (KRel w w2 w2 0 []) := ⟨HB2.out, Nat.le_refl _, fun _ _ => rfl, HK2.out, HK2.out.lt⟩
  obtain ⟨A2, c2, rfl, q1, q2, G⟩ := hN2.rdD.open_
  unfold maxLen at q2
  have HG := Lib.hid G
  clear hN2 HL G HBN HK2 HK1 HB1 HKV HBV
  go_wp2_with fail
  go_loopw [3, 20] (fun n i wr => ∃ k : Nat, k ≤ L.length ∧ i = .int .i64 (k : Int) ∧ n = .int .i64 (ct k : Nat) ∧ Hid (KRel w w2 wr (8 * k) (kn k))) (fun _ i _ => L.length - (intOf i).toNat)
  case atStart => exact ⟨0, Nat.zero_le _, rfl, by rw [H01.out]; rfl, by rw [H02.out]; exact HR0⟩
  case round =>
    obtain ⟨k, hk, rfl, rfl, HR⟩ := hrel
    have hnk := HLE.out k
    by_cases hlt : k < L.length
    · have ht : decide ((k : Int) < (L.length : Int)) = true := by simp only [decide_eq_true_eq]; omega
      obtain ⟨ad, sl, rfl, hbl, hc, hx⟩ := HG.out k hlt
      have hc2 : wr.cell? (ad.add k) = some (slV sl) := (HR.out.2.2.1 _ (by rw [addBlock]; exact hbl)).trans hc
      have HX : Hid (RdF elDomino w2 w2.heap.size (slV sl) L[k]) := hx
      have HGK := Lib.hid (HGL.out k hlt)
      obtain ⟨ha1, ha2⟩ := HAL.out L[k] (List.getElem_mem hlt)
      have HIK := Lib.hid (fun j hj => HIM.out j hj L[k] (List.getElem_mem hlt))
      have HSIK := Lib.hid (HSI.out k)
      have HSOK := Lib.hid (HSO.out k)
      rw [HGK.out] at HSIK HSOK
      generalize L[k] = ls at *
      obtain ⟨g3, n3, c3⟩ := sl
      unfold slV at hc2 HX
      have hk0 : (0 : Int) ≤ (k : Int) := by omega
      have hk1 : (k : Int) < (L.length : Int) := by omega
      clear hc hx hbl HGK
      obtain ⟨A3, c3', hv3, r1, r2, _⟩ := id HX.out
      simp only [Value.slice.injEq] at hv3
      obtain ⟨rfl, rfl, rfl⟩ := hv3
      have HTK := Lib.hid (HTT.out _ ls _ wr (HX.out.krel HR.out) (Nat.le_refl _) ha1 (by omega))
      have htl := HTLN.out ls ha2
      go_wp2_with fail
      refine HTK.out.mono ?_
      rintro e w3 ⟨rfl, hb3⟩
      have HR3 := Lib.hid (HR.out.below hb3)
      have hk8 : 8 * k + 8 ≤ 3000 := by omega
      clear hb3 HTK
      cases hq : decide (tx ls ∈ kn k)
      · obtain ⟨hs1, hs2⟩ := HSOK.out hq
        have HS1 := Lib.hid hs1; have HS2 := Lib.hid hs2
        clear hs1 hs2 HSIK HSOK
        go_wp2_with (at_lookup; refine wpList_look rfl _ _ _ rfl Tryd.underlying9 Tryd.underlying33 Tryd.underlying4 (zeroB _) rfl HR3.out.2.2.2.1 _ rfl (by show (tx ls).length ≤ _; unfold maxLen; omega) false (by exact hq) ?_)
        have HR30 : Hid (KRel w w2 w3 (8 * k + 0) (knTo (fun j => tx (im ls j)) (kn k) 0)) := HR3.out
        have HKN : Hid (∀ S j, knTo (fun j => tx (im ls j)) S (j + 1) = tx (im ls j) :: knTo (fun j => tx (im ls j)) S j) := fun _ _ => rfl
        generalize kn k = S0 at *
        obtain ⟨kt, HKT⟩ : ∃ kt : Nat → List (List UInt8), Hid (kt = knTo (fun j => tx (im ls j)) S0) := ⟨_, rfl⟩
        have HKN2 : Hid (∀ j, kt (j + 1) = tx (im ls j) :: kt j) := fun j => by rw [HKT.out]; exact HKN.out S0 j
        rw [← HKT.out] at HS2 HR30
        clear HKT HKN
        go_loopw [30] (fun i wi => ∃ j : Nat, j ≤ 8 ∧ i = .int .i64 (j : Int) ∧ Hid (KRel w w2 wi (8 * k + j) (kt j))) (fun i _ => 8 - (intOf i).toNat)
        case atStart => exact ⟨0, Nat.zero_le _, rfl, HR30⟩
        case round =>
          obtain ⟨j, hj, rfl, HRJ⟩ := hrel
          by_cases hlj : j < 8
          · have htj : decide ((j : Int) < 8) = true := by simp only [decide_eq_true_eq]; omega
            have hj0 : (0 : Int) ≤ (j : Int) := by omega
            have hj1 : (j : Int) < 8 := by omega
            have HS5 := Lib.hid (fun V => HSN.out j hlj (.slice g3 ls.length c3) ls V.heap.size V)
            obtain ⟨hi1, hi2⟩ := HIK.out j hlj
            have HTJ := Lib.hid (fun V u h => HTT.out u (im ls j) V.heap.size V h (Nat.le_refl _) hi1 (by omega))
            have htl2 := HTLN.out _ hi2
            have HKJ := Lib.hid (HKN2.out j)
            generalize im ls j = il at *
            clear hi1 hi2
            go_wp2_with fail
            refine (HS5.out _ (HX.out.krel HRJ.out) (Nat.le_refl _)).mono ?_
            rintro e w5 ⟨u5, rfl, hr5, hb5⟩
            have HR5 := Lib.hid (HRJ.out.below hb5)
            have HT5 := Lib.hid (HTJ.out w5 u5 hr5)
            obtain ⟨A5, c5, rfl, _, _, _⟩ := id hr5
            clear hr5 hb5
            go_wp2_with fail
            refine HT5.out.mono ?_
            rintro e w6 ⟨rfl, hb6⟩
            have HR6 := Lib.hid (HR5.out.below hb6)
            clear hb6 HT5
            go_wp2_with (at_mapUpdate; refine wpList_putM rfl _ _ _ _ rfl Tryd.underlying9 Tryd.underlying33 Tryd.underlying4 rfl HR6.out.2.2.2.1 (by unfold maxLen; omega) _ rfl rfl (by show (tx il).length ≤ _; unfold maxLen; omega) ?_; intro w7 HK7 HG7)
            go_roundw
            case rel => exact ⟨j + 1, by omega, by go_num, by rw [HKJ.out]; exact HR6.out.put HK7.out HG7.out⟩
            case measure => simp [intOf]; omega
          · obtain rfl : j = 8 := by omega
            go_wp2_with fail
            go_roundw
            case rel => exact ⟨k + 1, by omega, by go_num, by rw [HS1.out]; go_num, by rw [HS2.out, show 8 * (k + 1) = 8 * k + 8 by omega]; exact HRJ⟩
            case measure => simp [intOf]; omega
      · obtain ⟨hs1, hs2⟩ := HSIK.out hq
        have HS1 := Lib.hid hs1; have HS2 := Lib.hid hs2
        clear hs1 hs2 HSIK HSOK
        go_wp2_with (at_lookup; refine wpList_look rfl _ _ _ rfl Tryd.underlying9 Tryd.underlying33 Tryd.underlying4 (zeroB _) rfl HR3.out.2.2.2.1 _ rfl (by show (tx ls).length ≤ _; unfold maxLen; omega) true (by exact hq) ?_)
        go_roundw
        case rel => exact ⟨k + 1, by omega, by go_num, by rw [HS1.out], by rw [HS2.out]; exact HR3.out.more (by omega)⟩
        case measure => simp [intOf]; omega
    · obtain rfl : k = L.length := by omega
      have ht : decide ((L.length : Int) < (L.length : Int)) = false := by simp
      go_wp2_with fail
      go_ret
      exact ⟨rfl, HR.out.1⟩

set_option maxRecDepth 100000 in
set_option maxHeartbeats 4000000 in
theorem CountClasses_yes4 (s : Nat) (hs2 : s = 4) (w : World) :
    Calls Tryd.prog 5 #[.int .i64 (s : Int)] w fun e w' => e = .returned (.int .i64 (clsN s : Nat)) ∧ Below w.heap.size w w' := by
  have hs : s = 2 ∨ s = 4 := by omega
  obtain ⟨hb1, hb2, hb3⟩ := fix_at hs
  have HCN : Hid (clsN s = (stTo s (allT s) (allT s).length).1) := rfl
  rw [HCN.out]
  have HLT := Lib.hid (ListT_sq s hs)
  have HRC := Lib.hid (Rectangle_yes s s (by omega) (by omega))
  have HSN : Hid (∀ j : Nat, j < 8 → ∀ v ls B w, RdF elDomino w B v ls → B ≤ w.heap.size → Calls Tryd.prog 13 #[.int .i64 (s : Int), v, .int .i64 ((j : Int) % 4), .bool (decide (4 ≤ (j : Int)))] w (RetRd w (imgZ s ls j))) := fun j hj v ls B w h hB => by
    have h1 := seen_loop (s : Int) (j % 4) (by omega) v ls (decide (4 ≤ j)) B w h hB
    have e1 : ((j % 4 : Nat) : Int) = (j : Int) % 4 := by omega
    have e2 : decide (4 ≤ (j : Int)) = decide (4 ≤ j) := by rw [decide_eq_decide]; omega
    rw [e2, ← e1]
    exact h1
  have HIM : Hid (∀ j : Nat, j < 8 → ∀ ls, ls ∈ allT s → (imgZ s ls j).all domL = true ∧ (imgZ s ls j).length ≤ 8) := fun j hj ls h => img_ok hs h (by omega) _
  have HAL : Hid (∀ ls, ls ∈ allT s → ls.all domL = true ∧ ls.length ≤ 8) := fun ls h => img_all hs h
  have HTT := Lib.hid (fun v ls B w h hB hd hn => TilingText_ok v ls B w h hB hd hn)
  have HTLN : Hid (∀ ls : List Lk, ls.length ≤ 8 → (textZ ls).length ≤ 40) := fun ls h => Nat.le_trans (text_len ls) (by omega)
  have HGL : Hid (∀ k (h : k < (allT s).length), getL (allT s) k = (allT s)[k]) := fun k h => by unfold Hid getL at *; simp [h]
  have HSI : Hid (∀ k, decide (textZ (getL (allT s) k) ∈ (stTo s (allT s) k).2) = true → (stTo s (allT s) (k + 1)).1 = (stTo s (allT s) k).1 ∧ (stTo s (allT s) (k + 1)).2 = (stTo s (allT s) k).2) := fun k h => by
    rw [st_in h]; exact ⟨rfl, rfl⟩
  have HSO : Hid (∀ k, decide (textZ (getL (allT s) k) ∈ (stTo s (allT s) k).2) = false → (stTo s (allT s) (k + 1)).1 = (stTo s (allT s) k).1 + 1 ∧ (stTo s (allT s) (k + 1)).2 = knTo (fun j => textZ (imgZ s (getL (allT s) k) j)) (stTo s (allT s) k).2 8) := fun k h => by
    rw [st_out h]; exact ⟨rfl, rfl⟩
  have HLE : Hid (∀ k, (stTo s (allT s) k).1 ≤ k) := st_le s (allT s)
  have H01 : Hid ((stTo s (allT s) 0).1 = 0) := rfl
  have H02 : Hid ((stTo s (allT s) 0).2 = []) := rfl
  generalize rectZ s s = rz at *
  generalize allT s = L at *
  obtain ⟨ct, HCT⟩ : ∃ ct : Nat → Nat, Hid (ct = fun k => (stTo s L k).1) := ⟨_, rfl⟩
  obtain ⟨kn, HKN⟩ : ∃ kn : Nat → List (List UInt8), Hid (kn = fun k => (stTo s L k).2) := ⟨_, rfl⟩
  have hct : ∀ k, (stTo s L k).1 = ct k := fun k => by rw [HCT.out]
  have hkn : ∀ k, (stTo s L k).2 = kn k := fun k => by rw [HKN.out]
  simp only [hct, hkn, Hid] at HSI HSO HLE H01 H02
  rw [hct]
  replace HSI := Lib.hid HSI; replace HSO := Lib.hid HSO; replace HLE := Lib.hid HLE; replace H01 := Lib.hid H01; replace H02 := Lib.hid H02
  clear HCN HCT HKN hct hkn hb1 hb2
  obtain ⟨im, HIME⟩ : ∃ im : List Lk → Nat → List Lk, Hid (im = imgZ s) := ⟨_, rfl⟩
  rw [← HIME.out] at HSN HIM HSO
  obtain ⟨tx, HTXE⟩ : ∃ tx : List Lk → List UInt8, Hid (tx = textZ) := ⟨_, rfl⟩
  rw [← HTXE.out] at HTT HTLN HSI HSO
  clear HIME HTXE
  have hc2' : ((s : Int) != 2) = true := by rw [hs2]; rfl
  have hc4' : ((s : Int) != 4) = false := by rw [hs2]; rfl
  have hmm := @run_makeMap Tryd.prog
  clear hs2 hs
  go_enter Tryd.func5, Tryd.ntmps5
  go_wp2_with fail
  obtain ⟨V0, hV0, k9, hbV0⟩ := one_alloc w (.map #[] 0)
  have HKV : Hid (Kn V0 w.heap.size 0 []) := by unfold Hid Kn; rw [hV0]; exact Knows.made w
  rw [← hV0]
  have HBV := Lib.hid hbV0
  clear hV0 k9 hbV0 hmm
  refine (HRC.out _).mono ?_
  rintro e w1 ⟨u1, rfl, hr1, hb1⟩
  have HK1 := Lib.hid (HKV.out.below hb1 HKV.out.lt)
  have HB1 := Lib.hid (HBV.out.trans (hb1.mono HBV.out.size))
  have HL := Lib.hid (HLT.out u1 _ w1 hr1 (Nat.le_refl _))
  clear hb1 hr1
  go_wp2_with fail
  refine HL.out.mono ?_
  rintro e w2 ⟨v2, hi2, rfl, hN2⟩
  have HBN : Hid (Below w1.heap.size w1 w2) := hN2.choose_spec.1.2.1
  have HK2 := Lib.hid (HK1.out.below HBN.out HK1.out.lt)
  have HB2 := Lib.hid (HB1.out.trans (HBN.out.mono HB1.out.size))
  have HR0 : Hid (KRel w w2 w2 0 []) := ⟨HB2.out, Nat.le_refl _, fun _ _ => rfl, HK2.out, HK2.out.lt⟩
  obtain ⟨A2, c2, rfl, q1, q2, G⟩ := hN2.rdD.open_
  unfold maxLen at q2
  have HG := Lib.hid G
  clear hN2 HL G HBN HK2 HK1 HB1 HKV HBV
  go_wp2_with fail
  go_loopw [3, 20] (fun n i wr => ∃ k : Nat, k ≤ L.length ∧ i = .int .i64 (k : Int) ∧ n = .int .i64 (ct k : Nat) ∧ Hid (KRel w w2 wr (8 * k) (kn k))) (fun _ i _ => L.length - (intOf i).toNat)
  case atStart => exact ⟨0, Nat.zero_le _, rfl, by rw [H01.out]; rfl, by rw [H02.out]; exact HR0⟩
  case round =>
    obtain ⟨k, hk, rfl, rfl, HR⟩ := hrel
    have hnk := HLE.out k
    by_cases hlt : k < L.length
    · have ht : decide ((k : Int) < (L.length : Int)) = true := by simp only [decide_eq_true_eq]; omega
      obtain ⟨ad, sl, rfl, hbl, hc, hx⟩ := HG.out k hlt
      have hc2 : wr.cell? (ad.add k) = some (slV sl) := (HR.out.2.2.1 _ (by rw [addBlock]; exact hbl)).trans hc
      have HX : Hid (RdF elDomino w2 w2.heap.size (slV sl) L[k]) := hx
      have HGK := Lib.hid (HGL.out k hlt)
      obtain ⟨ha1, ha2⟩ := HAL.out L[k] (List.getElem_mem hlt)
      have HIK := Lib.hid (fun j hj => HIM.out j hj L[k] (List.getElem_mem hlt))
      have HSIK := Lib.hid (HSI.out k)
      have HSOK := Lib.hid (HSO.out k)
      rw [HGK.out] at HSIK HSOK
      generalize L[k] = ls at *
      obtain ⟨g3, n3, c3⟩ := sl
      unfold slV at hc2 HX
      have hk0 : (0 : Int) ≤ (k : Int) := by omega
      have hk1 : (k : Int) < (L.length : Int) := by omega
      clear hc hx hbl HGK
      obtain ⟨A3, c3', hv3, r1, r2, _⟩ := id HX.out
      simp only [Value.slice.injEq] at hv3
      obtain ⟨rfl, rfl, rfl⟩ := hv3
      have HTK := Lib.hid (HTT.out _ ls _ wr (HX.out.krel HR.out) (Nat.le_refl _) ha1 (by omega))
      have htl := HTLN.out ls ha2
      go_wp2_with fail
      refine HTK.out.mono ?_
      rintro e w3 ⟨rfl, hb3⟩
      have HR3 := Lib.hid (HR.out.below hb3)
      have hk8 : 8 * k + 8 ≤ 3000 := by omega
      clear hb3 HTK
      cases hq : decide (tx ls ∈ kn k)
      · obtain ⟨hs1, hs2⟩ := HSOK.out hq
        have HS1 := Lib.hid hs1; have HS2 := Lib.hid hs2
        clear hs1 hs2 HSIK HSOK
        go_wp2_with (at_lookup; refine wpList_look rfl _ _ _ rfl Tryd.underlying9 Tryd.underlying33 Tryd.underlying4 (zeroB _) rfl HR3.out.2.2.2.1 _ rfl (by show (tx ls).length ≤ _; unfold maxLen; omega) false (by exact hq) ?_)
        have HR30 : Hid (KRel w w2 w3 (8 * k + 0) (knTo (fun j => tx (im ls j)) (kn k) 0)) := HR3.out
        have HKN : Hid (∀ S j, knTo (fun j => tx (im ls j)) S (j + 1) = tx (im ls j) :: knTo (fun j => tx (im ls j)) S j) := fun _ _ => rfl
        generalize kn k = S0 at *
        obtain ⟨kt, HKT⟩ : ∃ kt : Nat → List (List UInt8), Hid (kt = knTo (fun j => tx (im ls j)) S0) := ⟨_, rfl⟩
        have HKN2 : Hid (∀ j, kt (j + 1) = tx (im ls j) :: kt j) := fun j => by rw [HKT.out]; exact HKN.out S0 j
        rw [← HKT.out] at HS2 HR30
        clear HKT HKN
        go_loopw [30] (fun i wi => ∃ j : Nat, j ≤ 8 ∧ i = .int .i64 (j : Int) ∧ Hid (KRel w w2 wi (8 * k + j) (kt j))) (fun i _ => 8 - (intOf i).toNat)
        case atStart => exact ⟨0, Nat.zero_le _, rfl, HR30⟩
        case round =>
          obtain ⟨j, hj, rfl, HRJ⟩ := hrel
          by_cases hlj : j < 8
          · have htj : decide ((j : Int) < 8) = true := by simp only [decide_eq_true_eq]; omega
            have hj0 : (0 : Int) ≤ (j : Int) := by omega
            have hj1 : (j : Int) < 8 := by omega
            have HS5 := Lib.hid (fun V => HSN.out j hlj (.slice g3 ls.length c3) ls V.heap.size V)
            obtain ⟨hi1, hi2⟩ := HIK.out j hlj
            have HTJ := Lib.hid (fun V u h => HTT.out u (im ls j) V.heap.size V h (Nat.le_refl _) hi1 (by omega))
            have htl2 := HTLN.out _ hi2
            have HKJ := Lib.hid (HKN2.out j)
            generalize im ls j = il at *
            clear hi1 hi2
            go_wp2_with fail
            refine (HS5.out _ (HX.out.krel HRJ.out) (Nat.le_refl _)).mono ?_
            rintro e w5 ⟨u5, rfl, hr5, hb5⟩
            have HR5 := Lib.hid (HRJ.out.below hb5)
            have HT5 := Lib.hid (HTJ.out w5 u5 hr5)
            obtain ⟨A5, c5, rfl, _, _, _⟩ := id hr5
            clear hr5 hb5
            go_wp2_with fail
            refine HT5.out.mono ?_
            rintro e w6 ⟨rfl, hb6⟩
            have HR6 := Lib.hid (HR5.out.below hb6)
            clear hb6 HT5
            go_wp2_with (at_mapUpdate; refine wpList_putM rfl _ _ _ _ rfl Tryd.underlying9 Tryd.underlying33 Tryd.underlying4 rfl HR6.out.2.2.2.1 (by unfold maxLen; omega) _ rfl rfl (by show (tx il).length ≤ _; unfold maxLen; omega) ?_; intro w7 HK7 HG7)
            go_roundw
            case rel => exact ⟨j + 1, by omega, by go_num, by rw [HKJ.out]; exact HR6.out.put HK7.out HG7.out⟩
            case measure => simp [intOf]; omega
          · obtain rfl : j = 8 := by omega
            go_wp2_with fail
            go_roundw
            case rel => exact ⟨k + 1, by omega, by go_num, by rw [HS1.out]; go_num, by rw [HS2.out, show 8 * (k + 1) = 8 * k + 8 by omega]; exact HRJ⟩
            case measure => simp [intOf]; omega
      · obtain ⟨hs1, hs2⟩ := HSIK.out hq
        have HS1 := Lib.hid hs1; have HS2 := Lib.hid hs2
        clear hs1 hs2 HSIK HSOK
        go_wp2_with (at_lookup; refine wpList_look rfl _ _ _ rfl Tryd.underlying9 Tryd.underlying33 Tryd.underlying4 (zeroB _) rfl HR3.out.2.2.2.1 _ rfl (by show (tx ls).length ≤ _; unfold maxLen; omega) true (by exact hq) ?_)
        go_roundw
        case rel => exact ⟨k + 1, by omega, by go_num, by rw [HS1.out], by rw [HS2.out]; exact HR3.out.more (by omega)⟩
        case measure => simp [intOf]; omega
    · obtain rfl : k = L.length := by omega
      have ht : decide ((L.length : Int) < (L.length : Int)) = false := by simp
      go_wp2_with fail
      go_ret
      exact ⟨rfl, HR.out.1⟩

/-- What CountClasses returns. -/
def clsZ (a : Int) : Int := if a = 2 ∨ a = 4 then (clsN a.toNat : Nat) else -1
set_option maxRecDepth 100000 in
theorem CountClasses_any (a : Int) (w : World) :
    Calls Tryd.prog 5 #[.int .i64 a] w fun e w' => e = .returned (.int .i64 (clsZ a)) ∧ Below w.heap.size w w' := by
  by_cases h : a = 2 ∨ a = 4
  · have e0 : clsZ a = (clsN a.toNat : Nat) := if_pos h
    rw [e0]
    obtain ⟨s, rfl⟩ := Int.eq_ofNat_of_zero_le (show 0 ≤ a by omega)
    rw [Int.toNat_natCast]
    rcases (show s = 2 ∨ s = 4 by omega) with hs | hs
    · exact CountClasses_yes2 s hs w
    · exact CountClasses_yes4 s hs w
  · have e0 : clsZ a = -1 := if_neg h
    rw [e0]
    have f2 : (a != 2) = true := by rw [bne_iff_ne]; exact fun e => h (.inl e)
    have f4 : (a != 4) = true := by rw [bne_iff_ne]; exact fun e => h (.inr e)
    clear h e0
    go_enter Tryd.func5, Tryd.ntmps5
    go_wp2_with fail
    go_ret
    exact ⟨rfl, Below.refl _ _⟩
end Go.Proofs.YtehnbalbpfmijaaDoor

namespace Go.Proofs.YtehnbalbpfmijaaDoor
open Go.RowKit
set_option linter.unusedVariables false

theorem NRel.rdDL {w wr : World} {base lo hi : Nat} {v : Value} {xs : List (List Lk)} (h : NRel (kdF elDomino) eDL w base lo wr hi v xs) : RdN (RdF elDomino) wr wr.heap.size v xs :=
  h.rdN (K := kdF elDomino) okDL fun _ _ _ _ _ hx => hx.1.rd okDomino
theorem lmovS (s : Nat) (hs : s = 2 ∨ s = 4) (tn : Nat) (htn : tn ≤ 3) (m : Bool) (v : Value) (ls : List Lk) (hl : ls ∈ allT s) (B : Nat) (w : World) (h : RdF elDomino w B v ls) (hB : B ≤ w.heap.size) :
    Calls Tryd.prog 9 #[.int .i64 (s : Int), v, .int .i64 (tn : Int), .bool m] w fun e w' => ∃ u, e = .returned u ∧ OwnF elDomino w' w.heap.size u (seenZ (s : Int) ls tn m) ∧ Below w.heap.size w w' := by
  rw [seen_sq hs hl htn m]
  cases m
  · exact l19Moved_false s v ls tn htn B w h hB (til_sq hs hl)
  · exact l19Moved_true s v ls tn htn B w h hB (til_sq hs hl)
set_option maxRecDepth 100000 in
theorem specListT_sq (s : Nat) (hs : s = 2 ∨ s = 4) (v : Value) (B : Nat) (w : World) (h : RdI w B v (rectZ s s)) (hB : B ≤ w.heap.size) :
    Calls Tryd.prog 6 #[.agg #[v]] w (RetN (kdF elDomino) eDL w (allT s)) := by
  obtain ⟨hb1, hb2, hb3⟩ := fix_at hs
  have hok := rectZ_ok s s (by omega) (by omega)
  have hl := lst_sq hs
  generalize rectZ s s = zs at *
  generalize allT s = L at *
  exact specListTilings_yes v zs B w h hB hok hb2 20 (by omega) L (Nat.le_trans hb3 (by omega)) hl

end Go.Proofs.YtehnbalbpfmijaaDoor
