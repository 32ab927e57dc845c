/- Contracts of InversionsOf of the program and of the reference. -/
import Derived.Test.YtpefpllokhbkiaaAltS
namespace Go.Proofs.Ytpefpllokhbkiaa
open Go.RowKit

def invL (m : List (List Int)) (i j k : Nat) (a : Int) : Nat → Int | 0 => a | l + 1 => wrap64 (invL m i j k a l + wrap64 (el (rw' m i) j * el (rw' m k) l))
def invK (m : List (List Int)) (i j : Nat) (a : Int) : Nat → Int | 0 => a | k + 1 => if k ≤ i then a else invL m i j k (invK m i j a k) j
def invJ (m : List (List Int)) (i : Nat) (a : Int) : Nat → Int | 0 => a | j + 1 => invK m i j (invJ m i a j) m.length
def invI (m : List (List Int)) : Nat → Int | 0 => 0 | i + 1 => invJ m i (invI m i) m.length
def invB (m : List (List Int)) : Int := if altB m then invI m m.length else 0

set_option maxHeartbeats 4000000 in
theorem InversionsOf_any (v : Value) (zss : List (List Int)) (B : Nat) (w : World) (h : RdII w B v zss) (hB : B ≤ w.heap.size) :
    Calls Try.prog 54 #[v] w fun e w' => e = .returned (.int .i64 (invB zss)) ∧ Below w.heap.size w w' := by
  have HD := Lib.hid h
  obtain ⟨A, c, rfl, h1, h2, h3⟩ := h.open_
  unfold maxLen at h2
  clear h
  have H3 := Lib.hid h3; clear h3
  cases hal : altB zss
  · have HF : Hid (invB zss = 0) := by unfold Hid; rw [invB, hal]; rfl
    go_enter Try.func54, Try.ntmps54
    go_wp2_with fail
    refine (IsAlternating_any _ zss _ _ HD.out hB).mono ?_
    rintro e w1 ⟨rfl, hb1⟩
    rw [hal]
    go_wp2_with fail
    go_ret
    exact ⟨ret_int HF.out.symm, hb1⟩
  · have HF : Hid (invB zss = invI zss zss.length) := by unfold Hid; rw [invB, hal]; rfl
    obtain ⟨hl, _, hn1, hn5⟩ := altB_row zss hal
    have HL := Lib.hid hl; clear hl
    go_enter Try.func54, Try.ntmps54
    go_wp2_with fail
    refine (IsAlternating_any _ zss _ _ HD.out hB).mono ?_
    rintro e w1 ⟨rfl, hb1⟩
    rw [hal]
    clear hal
    go_wp2_with fail
    go_loopw [3, 13] (fun a s wr => ∃ (i : Nat) (a1 : Int), i ≤ zss.length ∧ a = .int .i64 a1 ∧ s = .int .i64 i ∧ Hid (a1 = invI zss i) ∧ Below w.heap.size w wr) (fun _ s _ => zss.length - (intOf s).toNat)
    case atStart => exact ⟨0, 0, Nat.zero_le _, rfl, rfl, rfl, hb1⟩
    case round =>
      obtain ⟨i, a1, hi, rfl, rfl, HA1, hb⟩ := hrel
      by_cases hlt : i < zss.length
      · have hi0 : (0 : Int) ≤ (i : Int) := by omega
        have hi1 : (i : Int) < (zss.length : Int) := by omega
        have hti : decide ((i : Int) < (zss.length : Int)) = true := by simp only [decide_eq_true_eq]; omega
        go_wp2_with fail
        go_loopw [3, 18] (fun a s wr => ∃ (j : Nat) (a2 : Int), j ≤ zss.length ∧ a = .int .i64 a2 ∧ s = .int .i64 j ∧ Hid (a2 = invJ zss i a1 j) ∧ Below w.heap.size w wr) (fun _ s _ => zss.length - (intOf s).toNat)
        case atStart => exact ⟨0, a1, Nat.zero_le _, rfl, rfl, rfl, hb⟩
        case round =>
          clear hb
          obtain ⟨j, a2, hj, rfl, rfl, HA2, hb⟩ := hrel
          by_cases hltj : j < zss.length
          · have hj0 : (0 : Int) ≤ (j : Int) := by omega
            have hj1 : (j : Int) < (zss.length : Int) := by omega
            have htj : decide ((j : Int) < (zss.length : Int)) = true := by simp only [decide_eq_true_eq]; omega
            go_wp2_with fail
            go_loopw [3, 6] (fun a s wr => ∃ (k : Nat) (a3 : Int), i + 1 ≤ k ∧ k ≤ zss.length ∧ a = .int .i64 a3 ∧ s = .int .i64 k ∧ Hid (a3 = invK zss i j a2 k) ∧ Below w.heap.size w wr) (fun _ s _ => zss.length - (intOf s).toNat)
            case atStart => exact ⟨i + 1, a2, Nat.le_refl _, by omega, rfl, by go_num, (by unfold Hid; rw [invK, if_pos (Nat.le_refl _)]), hb⟩
            case round =>
              clear hb
              obtain ⟨k, a3, hki, hk, rfl, rfl, HA3, hb⟩ := hrel
              by_cases hltk : k < zss.length
              · have hk0 : (0 : Int) ≤ (k : Int) := by omega
                have hk1 : (k : Int) < (zss.length : Int) := by omega
                have htk : decide ((k : Int) < (zss.length : Int)) = true := by simp only [decide_eq_true_eq]; omega
                go_wp2_with fail
                go_loopw [3, 30] (fun a s wr => ∃ (l : Nat) (a4 : Int), l ≤ j ∧ a = .int .i64 a4 ∧ s = .int .i64 l ∧ Hid (a4 = invL zss i j k a3 l) ∧ Below w.heap.size w wr) (fun _ s _ => j - (intOf s).toNat)
                case atStart => exact ⟨0, a3, Nat.zero_le _, rfl, rfl, rfl, hb⟩
                case round =>
                  clear hb
                  obtain ⟨l, a4, hl, rfl, rfl, HA4, hb⟩ := hrel
                  by_cases hltl : l < j
                  · have hl0 : (0 : Int) ≤ (l : Int) := by omega
                    have htl : decide ((l : Int) < (j : Int)) = true := by simp only [decide_eq_true_eq]; omega
                    obtain ⟨ad, ur, rfl, hbl, hc, A', c', rfl, q1, q2, q3⟩ := H3.out i hlt
                    obtain ⟨ad2, ur2, had2, hbl2, hc2, A2, c2, rfl, p1, p2, p3⟩ := H3.out k hltk
                    obtain rfl : ad = ad2 := Option.some.inj had2
                    unfold maxLen at q2 p2
                    have hli := HL.out i hlt
                    have hlk := HL.out k hltk
                    obtain ⟨ai, rfl, hbi, hci⟩ := q3.el (show j < (rw' zss i).length by omega)
                    obtain ⟨ak, rfl, hbk, hck⟩ := p3.el (show l < (rw' zss k).length by omega)
                    have c1 := (hb.cell (p := ad.add i) (by rw [addBlock]; omega)).trans hc
                    have c2' := (hb.cell (p := ad.add k) (by rw [addBlock]; omega)).trans hc2
                    have c3 := (hb.cell (p := ai.add j) (by rw [addBlock]; omega)).trans hci
                    have c4 := (hb.cell (p := ak.add l) (by rw [addBlock]; omega)).trans hck
                    have hj2 : (j : Int) < ((rw' zss i).length : Int) := by omega
                    have hl2 : (l : Int) < ((rw' zss k).length : Int) := by omega
                    clear hc hc2 hci hck q3 p3 had2 hli hlk
                    go_wp2_with fail
                    go_quiet (fail)
                    go_wp2_with fail
                    go_roundw
                    case rel => exact ⟨l + 1, _, by omega, rfl, by go_num, (by unfold Hid; rw [invL, HA4.out]), hb.trans (Drawn.below ⟨_, rfl⟩ _)⟩
                    case measure => simp [intOf]; omega
                  · have HK : Hid (l = j) := by unfold Hid; omega
                    go_wp2_with fail
                    go_roundw
                    case rel => exact ⟨k + 1, _, by omega, by omega, rfl, by go_num, (by unfold Hid; rw [invK, if_neg (by omega), HA4.out, HA3.out, HK.out]), hb⟩
                    case measure => simp [intOf]; omega
              · have HK : Hid (k = zss.length) := by unfold Hid; omega
                go_wp2_with fail
                go_roundw
                case rel => exact ⟨j + 1, _, by omega, rfl, by go_num, (by unfold Hid; rw [invJ, HA3.out, HA2.out, HK.out]), hb⟩
                case measure => simp [intOf]; omega
          · have HK : Hid (j = zss.length) := by unfold Hid; omega
            go_wp2_with fail
            go_roundw
            case rel => exact ⟨i + 1, _, by omega, rfl, by go_num, (by unfold Hid; rw [invI, HA2.out, HA1.out, HK.out]), hb⟩
            case measure => simp [intOf]; omega
      · have HK : Hid (a1 = invB zss) := by unfold Hid; rw [HF.out, HA1.out, show i = zss.length by omega]
        go_wp2_with fail
        go_ret
        exact ⟨ret_int HK.out, hb⟩

set_option maxHeartbeats 4000000 in
theorem specInversionsOf_any (v : Value) (zss : List (List Int)) (B : Nat) (w : World) (h : RdII w B v zss) (hB : B ≤ w.heap.size) (hln : zss.length ≤ 1048576) :
    Calls Try.prog 53 #[v] w fun e w' => e = .returned (.int .i64 (invB zss)) ∧ Below w.heap.size w w' := by
  have HD := Lib.hid h
  obtain ⟨A, c, rfl, h1, h2, h3⟩ := h.open_
  unfold maxLen at h2
  clear h
  have H3 := Lib.hid h3; clear h3
  cases hal : altB zss
  · have HF : Hid (invB zss = 0) := by unfold Hid; rw [invB, hal]; rfl
    go_enter Try.func53, Try.ntmps53
    go_wp2_with fail
    refine (specIsAlternating_any _ zss _ _ HD.out hB hln).mono ?_
    rintro e w1 ⟨rfl, hb1⟩
    rw [hal]
    go_wp2_with fail
    go_ret
    exact ⟨ret_int HF.out.symm, hb1⟩
  · have HF : Hid (invB zss = invI zss zss.length) := by unfold Hid; rw [invB, hal]; rfl
    obtain ⟨hl, _, hn1, hn5⟩ := altB_row zss hal
    have HL := Lib.hid hl; clear hl
    go_enter Try.func53, Try.ntmps53
    go_wp2_with fail
    refine (specIsAlternating_any _ zss _ _ HD.out hB hln).mono ?_
    rintro e w1 ⟨rfl, hb1⟩
    rw [hal]
    clear hal
    go_wp2_with fail
    go_loopw [3, 4] (fun a s wr => ∃ (i : Nat) (a1 : Int), i ≤ zss.length ∧ a = .int .i64 a1 ∧ s = .int .i64 i ∧ Hid (a1 = invI zss i) ∧ Below w.heap.size w wr) (fun _ s _ => zss.length - (intOf s).toNat)
    case atStart => exact ⟨0, 0, Nat.zero_le _, rfl, rfl, rfl, hb1⟩
    case round =>
      obtain ⟨i, a1, hi, rfl, rfl, HA1, hb⟩ := hrel
      by_cases hlt : i < zss.length
      · have hi0 : (0 : Int) ≤ (i : Int) := by omega
        have hi1 : (i : Int) < (zss.length : Int) := by omega
        have hti : decide ((i : Int) < (zss.length : Int)) = true := by simp only [decide_eq_true_eq]; omega
        go_wp2_with fail
        go_loopw [3, 5] (fun a s wr => ∃ (j : Nat) (a2 : Int), j ≤ zss.length ∧ a = .int .i64 a2 ∧ s = .int .i64 j ∧ Hid (a2 = invJ zss i a1 j) ∧ Below w.heap.size w wr) (fun _ s _ => zss.length - (intOf s).toNat)
        case atStart => exact ⟨0, a1, Nat.zero_le _, rfl, rfl, rfl, hb⟩
        case round =>
          clear hb
          obtain ⟨j, a2, hj, rfl, rfl, HA2, hb⟩ := hrel
          by_cases hltj : j < zss.length
          · have hj0 : (0 : Int) ≤ (j : Int) := by omega
            have hj1 : (j : Int) < (zss.length : Int) := by omega
            have htj : decide ((j : Int) < (zss.length : Int)) = true := by simp only [decide_eq_true_eq]; omega
            go_wp2_with fail
            go_loopw [3, 6] (fun a s wr => ∃ (k : Nat) (a3 : Int), i + 1 ≤ k ∧ k ≤ zss.length ∧ a = .int .i64 a3 ∧ s = .int .i64 k ∧ Hid (a3 = invK zss i j a2 k) ∧ Below w.heap.size w wr) (fun _ s _ => zss.length - (intOf s).toNat)
            case atStart => exact ⟨i + 1, a2, Nat.le_refl _, by omega, rfl, by go_num, (by unfold Hid; rw [invK, if_pos (Nat.le_refl _)]), hb⟩
            case round =>
              clear hb
              obtain ⟨k, a3, hki, hk, rfl, rfl, HA3, hb⟩ := hrel
              by_cases hltk : k < zss.length
              · have hk0 : (0 : Int) ≤ (k : Int) := by omega
                have hk1 : (k : Int) < (zss.length : Int) := by omega
                have htk : decide ((k : Int) < (zss.length : Int)) = true := by simp only [decide_eq_true_eq]; omega
                go_wp2_with fail
                go_loopw [3, 7] (fun a s wr => ∃ (l : Nat) (a4 : Int), l ≤ j ∧ a = .int .i64 a4 ∧ s = .int .i64 l ∧ Hid (a4 = invL zss i j k a3 l) ∧ Below w.heap.size w wr) (fun _ s _ => j - (intOf s).toNat)
                case atStart => exact ⟨0, a3, Nat.zero_le _, rfl, rfl, rfl, hb⟩
                case round =>
                  clear hb
                  obtain ⟨l, a4, hl, rfl, rfl, HA4, hb⟩ := hrel
                  by_cases hltl : l < j
                  · have hl0 : (0 : Int) ≤ (l : Int) := by omega
                    have htl : decide ((l : Int) < (j : Int)) = true := by simp only [decide_eq_true_eq]; omega
                    obtain ⟨ad, ur, rfl, hbl, hc, A', c', rfl, q1, q2, q3⟩ := H3.out i hlt
                    obtain ⟨ad2, ur2, had2, hbl2, hc2, A2, c2, rfl, p1, p2, p3⟩ := H3.out k hltk
                    obtain rfl : ad = ad2 := Option.some.inj had2
                    unfold maxLen at q2 p2
                    have hli := HL.out i hlt
                    have hlk := HL.out k hltk
                    obtain ⟨ai, rfl, hbi, hci⟩ := q3.el (show j < (rw' zss i).length by omega)
                    obtain ⟨ak, rfl, hbk, hck⟩ := p3.el (show l < (rw' zss k).length by omega)
                    have c1 := (hb.cell (p := ad.add i) (by rw [addBlock]; omega)).trans hc
                    have c2' := (hb.cell (p := ad.add k) (by rw [addBlock]; omega)).trans hc2
                    have c3 := (hb.cell (p := ai.add j) (by rw [addBlock]; omega)).trans hci
                    have c4 := (hb.cell (p := ak.add l) (by rw [addBlock]; omega)).trans hck
                    have hj2 : (j : Int) < ((rw' zss i).length : Int) := by omega
                    have hl2 : (l : Int) < ((rw' zss k).length : Int) := by omega
                    clear hc hc2 hci hck q3 p3 had2 hli hlk
                    go_wp2_with fail
                    go_quiet (fail)
                    go_wp2_with fail
                    go_roundw
                    case rel => exact ⟨l + 1, _, by omega, rfl, by go_num, (by unfold Hid; rw [invL, HA4.out]), hb.trans (Drawn.below ⟨_, rfl⟩ _)⟩
                    case measure => simp [intOf]; omega
                  · have HK : Hid (l = j) := by unfold Hid; omega
                    go_wp2_with fail
                    go_roundw
                    case rel => exact ⟨k + 1, _, by omega, by omega, rfl, by go_num, (by unfold Hid; rw [invK, if_neg (by omega), HA4.out, HA3.out, HK.out]), hb⟩
                    case measure => simp [intOf]; omega
              · have HK : Hid (k = zss.length) := by unfold Hid; omega
                go_wp2_with fail
                go_roundw
                case rel => exact ⟨j + 1, _, by omega, rfl, by go_num, (by unfold Hid; rw [invJ, HA3.out, HA2.out, HK.out]), hb⟩
                case measure => simp [intOf]; omega
          · have HK : Hid (j = zss.length) := by unfold Hid; omega
            go_wp2_with fail
            go_roundw
            case rel => exact ⟨i + 1, _, by omega, rfl, by go_num, (by unfold Hid; rw [invI, HA2.out, HA1.out, HK.out]), hb⟩
            case measure => simp [intOf]; omega
      · have HK : Hid (a1 = invB zss) := by unfold Hid; rw [HF.out, HA1.out, show i = zss.length by omega]
        go_wp2_with fail
        go_ret
        exact ⟨ret_int HK.out, hb⟩
end Go.Proofs.Ytpefpllokhbkiaa
