/- Contracts of IsAlternating of the program and of the reference. -/
import Derived.Test.YtpefpllokhbkiaaAlt
import Derived.Test.YtpefpllokhbkiaaPathRowS
namespace Go.Proofs.Ytpefpllokhbkiaa
open Go.RowKit

theorem RowAt.below {w w' : World} {B : Nat} {A : Option Addr} {zss : List (List Int)} (h : RowAt w B A zss) (hb : Below B w w') : RowAt w' B A zss := fun i hi => by
  obtain ⟨ad, u, ha, hbl, hc, hr⟩ := h i hi
  exact ⟨ad, u, ha, hbl, (hb.cell (p := ad.add i) (by rw [addBlock]; omega)).trans hc, hr.below hb⟩

set_option maxHeartbeats 4000000 in
theorem IsAlternating_any (v : Value) (zss : List (List Int)) (B : Nat) (w : World) (h : RdII w B v zss) (hB : B ≤ w.heap.size) :
    Calls Try.prog 43 #[v] w fun e w' => e = .returned (.bool (altB zss)) ∧ Below w.heap.size w w' := by
  obtain ⟨i0, hi0, hz0, hz1, hz2⟩ := info_parts infoInt
  have HD := Lib.hid h
  obtain ⟨A, c, rfl, h1, h2, h3⟩ := h.open_
  unfold maxLen at h2
  clear h
  have H3 := Lib.hid h3; clear h3
  rw [← altI_eq]
  cases hsq : sqB zss
  · have HF : Hid (altI' zss = false) := by unfold Hid; rw [altI', hsq]; rfl
    go_enter Try.func43, Try.ntmps43
    go_wp2_with fail
    refine (isSquare_any _ zss _ _ HD.out).mono ?_
    rintro e w' ⟨rfl, rfl⟩
    rw [hsq]
    go_wp2_with fail
    go_ret
    exact ⟨ret_bool HF.out.symm, Below.refl _ _⟩
  · have hsq' := hsq
    simp only [sqB, Bool.and_eq_true, upFrom_iff, Nat.zero_le, true_implies, decide_eq_true_eq, inB_iff] at hsq'
    obtain ⟨hl, hn1, hn2⟩ := hsq'
    have HL := Lib.hid (fun i hi => (hl i hi).1 : ∀ i, i < zss.length → (rw' zss i).length = zss.length)
    have hn5 : zss.length ≤ 5 := by omega
    clear hl
    generalize hr : altI' zss = r
    have HR : Hid (upFrom (fun k => byT (rw' zss k) && byT (colOf zss k zss.length)) 0 zss.length = r) := by unfold Hid; rw [← hr, altI', hsq, Bool.true_and]
    clear hr
    go_enter Try.func43, Try.ntmps43
    go_wp2_with fail
    refine (isSquare_any _ zss _ _ HD.out).mono ?_
    rintro e w' ⟨rfl, rfl⟩
    rw [hsq]
    clear hsq
    go_wp2_with fail
    go_loopw [12] (fun s wr => ∃ k : Nat, k ≤ zss.length ∧ s = .int .i64 k ∧ Hid (upFrom (fun k => byT (rw' zss k) && byT (colOf zss k zss.length)) k zss.length = r) ∧ Below w.heap.size w wr) (fun s _ => zss.length - (intOf s).toNat)
    case atStart => exact ⟨0, Nat.zero_le _, rfl, HR, Below.refl _ _⟩
    case round =>
      obtain ⟨k, hk, rfl, HE, hb⟩ := hrel
      by_cases hlt : k < zss.length
      · have hs := upFrom_step (fun k => byT (rw' zss k) && byT (colOf zss k zss.length)) k zss.length hlt
        have hk0 : (0 : Int) ≤ (k : Int) := by omega
        have hk1 : (k : Int) < (zss.length : Int) := by omega
        have hti : decide ((k : Int) < (zss.length : Int)) = true := by simp only [decide_eq_true_eq]; omega
        have HS0 := Lib.hid hs
        clear hs
        have hsz := hb.size
        go_wp2_with fail
        have HG0 : Hid (GrowRel w (wr.alloc (.cells #[] 3)) (.slice (some ⟨wr.heap.size, 0, none⟩) 0 0) []) := ⟨emptyOwn _ _ hsz, hb.alloc hsz _⟩
        go_loopw [4, 18] (fun o s wr => ∃ (i : Nat) (u : Value) (zo : List Int), i ≤ zss.length ∧ s = .int .i64 i ∧ o = u ∧ Hid (GrowRel w wr u zo) ∧ Hid (zo = colOf zss k i) ∧ zo.length ≤ i) (fun _ s _ => zss.length - (intOf s).toNat)
        case atStart => exact ⟨0, _, [], by omega, rfl, rfl, HG0, rfl, Nat.le_refl _⟩
        case round =>
          obtain ⟨i, u, zo, hi, rfl, rfl, HT, HI, hz⟩ := hrel
          by_cases hlti : i < zss.length
          · obtain ⟨ad, ur, rfl, hbl, hc, A', c', rfl, q1, q2, q3⟩ := H3.out i hlti
            unfold maxLen at q2
            have HQ := Lib.hid HT.out.2
            have hcw := (HQ.out.cell (p := ad.add i) (by rw [addBlock]; omega)).trans hc
            have hkr : k < (rw' zss i).length := by rw [HL.out i hlti]; exact hlt
            obtain ⟨ad', rfl, hbl', hck⟩ := q3.el hkr
            have hckw := (HQ.out.cell (p := ad'.add k) (by rw [addBlock]; omega)).trans hck
            have hk2 : (k : Int) < ((rw' zss i).length : Int) := by omega
            have hi0' : (0 : Int) ≤ (i : Int) := by omega
            have hi1' : (i : Int) < (zss.length : Int) := by omega
            clear hc hck q3
            go_wp2_with (at_builtin; refine wpList_append_lies _ rfl (.tmp 22) (.tmp 27) _ rfl w.heap.size 3 i0 _ 1 8 Try.underlying32 hi0 hz0 hz1 hz2 rfl (by omega) _ zo.length _ rfl (World.ownsRow.alloc HT.out.1 _) ⟨wr.heap.size, 0, none⟩ 1 1 [.int .i64 (el (rw' zss i) k)] rfl rfl (World.news_of_block (cs := #[.int .i64 (el (rw' zss i) k)]) (t := 3) (fr := (0, 0)) (heap_alloc_new wr _)) (by simp [Value.oneCell']) (by omega) (by unfold maxLen; omega) (by omega) (by simp; have := HT.out.2.size; omega) (wr.heap.size + 1) (by simp) ?_; intro gi capi wi hown hg hat hlti; have HS := Lib.hid (GrowRel.step HT.out hown hg); clear hown hg hat hlti)
            go_roundw
            case rel => exact ⟨i + 1, _, zo ++ [el (rw' zss i) k], by omega, by go_num, rfl, HS, by (unfold Hid; rw [HI.out, colOf]), by simp; omega⟩
            case measure => simp [intOf]; omega
          · have HC : Hid (zo = colOf zss k zss.length) := by unfold Hid; rw [HI.out, show i = zss.length by omega]
            obtain ⟨ad, ur, rfl, hbl, hc, A', c', rfl, q1, q2, q3⟩ := H3.out k hlt
            have HQ := Lib.hid HT.out.2
            have hcw := (HQ.out.cell (p := ad.add k) (by rw [addBlock]; omega)).trans hc
            have HU := Lib.hid ((show RdI w B (.slice A' (rw' zss k).length c') (rw' zss k) from ⟨_, _, rfl, q1, q2, q3⟩).below (HQ.out.mono hB))
            clear hc q3
            rcases two_ (byT (rw' zss k)) (byT zo) with b1 | ⟨b1, b2⟩ | ⟨b1, b2⟩
            · have HF : Hid (r = false) := by unfold Hid; rw [← HE.out, HS0.out, b1]; rfl
              go_wp2_with fail
              refine (isByTurns_any _ (rw' zss k) _ _ HU.out).mono ?_
              rintro e w' ⟨rfl, rfl⟩
              go_wp2_with fail
              go_ret
              exact ⟨ret_bool HF.out.symm, HQ.out⟩
            · have HF : Hid (r = false) := by unfold Hid; rw [← HE.out, HS0.out, ← HC.out, b1, b2]; rfl
              go_wp2_with fail
              refine (isByTurns_any _ (rw' zss k) _ _ HU.out).mono ?_
              rintro e w' ⟨rfl, rfl⟩
              go_wp2_with fail
              refine (isByTurns_any _ zo _ _ HT.out.1.rd).mono ?_
              rintro e w' ⟨rfl, rfl⟩
              go_wp2_with fail
              go_ret
              exact ⟨ret_bool HF.out.symm, HQ.out⟩
            · have HF : Hid (upFrom (fun k => byT (rw' zss k) && byT (colOf zss k zss.length)) (k + 1) zss.length = r) := by unfold Hid; rw [← HE.out, HS0.out, ← HC.out, b1, b2]; rfl
              go_wp2_with fail
              refine (isByTurns_any _ (rw' zss k) _ _ HU.out).mono ?_
              rintro e w' ⟨rfl, rfl⟩
              go_wp2_with fail
              refine (isByTurns_any _ zo _ _ HT.out.1.rd).mono ?_
              rintro e w' ⟨rfl, rfl⟩
              go_wp2_with fail
              go_roundw
              case rel => exact ⟨k + 1, by omega, by go_num, HF, HQ.out⟩
              case measure => simp [intOf]; omega
      · have HF : Hid (true = r) := by unfold Hid; rw [← HE.out, upFrom_end _ _ _ (by omega)]
        go_wp2_with fail
        go_ret
        exact ⟨ret_bool HF.out, hb⟩

set_option maxHeartbeats 4000000 in
theorem specIsAlternating_any (v : Value) (zss : List (List Int)) (B : Nat) (w : World) (h : RdII w B v zss) (hB : B ≤ w.heap.size) (hln : zss.length ≤ 1048576) :
    Calls Try.prog 42 #[v] w fun e w' => e = .returned (.bool (altB zss)) ∧ Below w.heap.size w w' := by
  have HD := Lib.hid h
  obtain ⟨A, c, rfl, h1, h2, h3⟩ := h.open_
  unfold maxLen at h2
  clear h
  have H3 := Lib.hid h3; clear h3
  generalize hr : altB zss = r
  have HR : Hid ((upFrom (fun i => decide ((rw' zss i).length = zss.length) && lineB (rw' zss i)) 0 zss.length && (upFrom (fun k => lineB (colOf zss k zss.length)) 0 zss.length && inB (zss.length : Int) 1 5)) = r) := hr
  clear hr
  go_enter Try.func42, Try.ntmps42
  go_wp2_with fail
  go_loopw [3] (fun s wr => ∃ i : Nat, i ≤ zss.length ∧ s = .int .i64 i ∧ Hid (∀ j, j < i → (rw' zss j).length = zss.length) ∧ Hid ((upFrom (fun i => decide ((rw' zss i).length = zss.length) && lineB (rw' zss i)) i zss.length && (upFrom (fun k => lineB (colOf zss k zss.length)) 0 zss.length && inB (zss.length : Int) 1 5)) = r) ∧ Below w.heap.size w wr) (fun s _ => zss.length - (intOf s).toNat)
  case atStart => exact ⟨0, Nat.zero_le _, rfl, (fun j hj => absurd hj (by omega)), HR, Below.refl _ _⟩
  case round =>
    obtain ⟨i, hi, rfl, HA, HE, hb⟩ := hrel
    by_cases hlt : i < zss.length
    · have hs := upFrom_step (fun i => decide ((rw' zss i).length = zss.length) && lineB (rw' zss i)) i zss.length hlt
      obtain ⟨ad, u, rfl, hbl, hc, A', c', rfl, q1, q2, q3⟩ := H3.out i hlt
      have hcw := (hb.cell (p := ad.add i) (by rw [addBlock]; omega)).trans hc
      have HU := Lib.hid ((show RdI w B (.slice A' (rw' zss i).length c') (rw' zss i) from ⟨_, _, rfl, q1, q2, q3⟩).below (hb.mono hB))
      have hsz := hb.size
      unfold maxLen at q2
      have hk0 : (0 : Int) ≤ (i : Int) := by omega
      have hk1 : (i : Int) < (zss.length : Int) := by omega
      clear hc q3
      by_cases hl : (rw' zss i).length = zss.length
      · have hne : (((rw' zss i).length : Int) != (zss.length : Int)) = false := by rw [bne_eq_false_iff_eq, hl]
        have HA2 : Hid (∀ j, j < i + 1 → (rw' zss j).length = zss.length) := fun j hj => by
          by_cases e : j = i
          · subst e; exact hl
          · exact HA.out j (by omega)
        cases ha : lineB (rw' zss i)
        · have HF : Hid (r = false) := by unfold Hid; rw [← HE.out, hs, ha]; simp
          clear hs hl
          go_wp2_with fail
          refine (l25Line_any _ (rw' zss i) _ _ HU.out (by omega)).mono ?_
          rintro e w' ⟨rfl, hb1⟩
          rw [ha]
          go_wp2_with fail
          go_ret
          exact ⟨ret_bool HF.out.symm, hb.trans (hb1.mono hsz)⟩
        · have HF : Hid ((upFrom (fun i => decide ((rw' zss i).length = zss.length) && lineB (rw' zss i)) (i + 1) zss.length && (upFrom (fun k => lineB (colOf zss k zss.length)) 0 zss.length && inB (zss.length : Int) 1 5)) = r) := by unfold Hid; rw [← HE.out, hs, ha, hl]; simp
          clear hs hl
          go_wp2_with fail
          refine (l25Line_any _ (rw' zss i) _ _ HU.out (by omega)).mono ?_
          rintro e w' ⟨rfl, hb1⟩
          rw [ha]
          go_wp2_with fail
          go_roundw
          case rel => exact ⟨i + 1, by omega, by go_num, HA2, HF, hb.trans (hb1.mono hsz)⟩
          case measure => simp [intOf]; omega
      · have hne : (((rw' zss i).length : Int) != (zss.length : Int)) = true := by rw [bne_iff_ne]; omega
        have HF : Hid (r = false) := by unfold Hid; rw [← HE.out, hs, decide_eq_false hl]; rfl
        clear hs hl
        go_wp2_with fail
        go_ret
        exact ⟨ret_bool HF.out.symm, hb⟩
    · have HN : Hid ((upFrom (fun k => lineB (colOf zss k zss.length)) 0 zss.length && inB (zss.length : Int) 1 5) = r) := by unfold Hid; rw [← HE.out, upFrom_end _ i _ (by omega)]; rfl
      have HL : Hid (∀ j, j < zss.length → (rw' zss j).length = zss.length) := fun j hj => HA.out j (by omega)
      clear HE HA
      go_wp2_with fail
      go_loopw [4] (fun s wr => ∃ k : Nat, k ≤ zss.length ∧ s = .int .i64 k ∧ Hid ((upFrom (fun k => lineB (colOf zss k zss.length)) k zss.length && inB (zss.length : Int) 1 5) = r) ∧ Below w.heap.size w wr) (fun s _ => zss.length - (intOf s).toNat)
      case atStart => exact ⟨0, Nat.zero_le _, rfl, HN, hb⟩
      case round =>
        clear hb
        obtain ⟨k, hk, rfl, HE, hb⟩ := hrel
        by_cases hlk : k < zss.length
        · have hs := upFrom_step (fun k => lineB (colOf zss k zss.length)) k zss.length hlk
          have hsz := hb.size
          cases ha : lineB (colOf zss k zss.length)
          · have HF : Hid (r = false) := by unfold Hid; rw [← HE.out, hs, ha]; rfl
            clear hs
            go_wp2_with fail
            refine (l25Column_any _ zss k _ _ (HD.out.below (hb.mono hB)) (by omega) hln (fun i hi => by rw [HL.out i hi]; exact hlk)).mono ?_
            rintro e w1 ⟨v1, rfl, ho1, hb1⟩
            have hsz1 := hb1.size
            go_wp2_with fail
            refine (l25Line_any _ (colOf zss k zss.length) _ _ ho1.rd (Nat.le_refl _)).mono ?_
            rintro e w2 ⟨rfl, hb2⟩
            rw [ha]
            go_wp2_with fail
            go_ret
            exact ⟨ret_bool HF.out.symm, (hb.trans (hb1.mono hsz)).trans (hb2.mono (by omega))⟩
          · have HF : Hid ((upFrom (fun k => lineB (colOf zss k zss.length)) (k + 1) zss.length && inB (zss.length : Int) 1 5) = r) := by unfold Hid; rw [← HE.out, hs, ha]; rfl
            clear hs
            go_wp2_with fail
            refine (l25Column_any _ zss k _ _ (HD.out.below (hb.mono hB)) (by omega) hln (fun i hi => by rw [HL.out i hi]; exact hlk)).mono ?_
            rintro e w1 ⟨v1, rfl, ho1, hb1⟩
            have hsz1 := hb1.size
            go_wp2_with fail
            refine (l25Line_any _ (colOf zss k zss.length) _ _ ho1.rd (Nat.le_refl _)).mono ?_
            rintro e w2 ⟨rfl, hb2⟩
            rw [ha]
            go_wp2_with fail
            go_roundw
            case rel => exact ⟨k + 1, by omega, by go_num, HF, (hb.trans (hb1.mono hsz)).trans (hb2.mono (by omega))⟩
            case measure => simp [intOf]; omega
        · have HF : Hid (inB (zss.length : Int) 1 5 = r) := by unfold Hid; rw [← HE.out, upFrom_end _ _ _ (by omega)]; rfl
          go_wp2_with fail
          refine (l01In_any _ _ _ _).mono ?_
          rintro e w' ⟨rfl, rfl⟩
          go_wp2_with fail
          go_ret
          exact ⟨ret_bool HF.out, hb⟩
end Go.Proofs.Ytpefpllokhbkiaa
