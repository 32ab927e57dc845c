/- The contract of the reference's IsHeap. -/
import Derived.Test.YtpockbbfbnaioaaQuiet
namespace Go.Proofs.Ytpockbbfbnaioaa
open Go.RowKit

def srowB (n : Nat) (c : Int) (up zs : List Int) (i : Nat) : Bool :=
  decide (zs.length = n) && upFrom (fun k => inB (el zs k) 0 c && !(fallB zs k || overB up zs i k)) 0 n
theorem srow_hrow (n : Nat) (c : Int) (up zs : List Int) (i : Nat) : srowB n c up zs i = hrowB n c up zs i := by
  rw [Bool.eq_iff_iff, hrowB_iff]
  simp only [srowB, Bool.and_eq_true, decide_eq_true_eq, upFrom_iff, inB_iff, Bool.not_eq_true', Bool.or_eq_false_iff, fallB_iff, overB_iff, Nat.zero_le, true_implies]
  constructor
  · rintro ⟨rfl, h⟩; exact ⟨rfl, fun j hj => (h j hj).1, fun j hj => (h j hj).2⟩
  · rintro ⟨hl, h1, h2⟩
    obtain rfl : zs.length = n := by omega
    exact ⟨rfl, fun j hj => ⟨h1 j hj, h2 j hj⟩⟩
theorem heap_srow (m n : Nat) (c : Int) (zss : List (List Int)) (hb : boxB m n c = true) (hl : zss.length = m) :
    heapB m n c zss = upFrom (fun i => srowB n c (rw' zss (i - 1)) (rw' zss i) i) 0 m := by
  subst hl
  simp only [heapB, hb, srow_hrow, Bool.true_and, decide_true]

set_option maxRecDepth 100000 in
set_option maxHeartbeats 6000000 in
theorem specIsHeap_in (m n : Nat) (c : Int) (v : Value) (zss : List (List Int)) (B : Nat) (w : World) (h : RdII w B v zss) (hB : B ≤ w.heap.size)
    (hbox : boxB m n c = true) (hlen : zss.length = m) :
    Calls Try.prog 70 #[.int .i64 m, .int .i64 n, .int .i64 c, v] w fun e w' => e = .returned (.bool (heapB m n c zss)) ∧ Below w.heap.size w w' := by
  obtain ⟨A, cp, rfl, h1, h2, h3⟩ := h.open_
  unfold maxLen at h2
  clear h
  obtain ⟨⟨hm1, hm2⟩, ⟨hn1, hn2⟩, hc1, hc2⟩ := (boxB_iff _ _ _).1 hbox
  generalize hr : heapB m n c zss = r
  have HR : Hid (upFrom (fun i => srowB n c (rw' zss (i - 1)) (rw' zss i) i) 0 m = r) := by unfold Hid; rw [← hr, heap_srow m n c zss hbox hlen]
  clear hr
  have hne : ((zss.length : Int) != (m : Int)) = false := by rw [bne_eq_false_iff_eq, hlen]
  have HM := Lib.hid hlen
  have hlm : (m : Int) ≤ (zss.length : Int) := by omega
  clear hlen
  have H3 := Lib.hid h3
  clear h3
  go_enter Try.func70, Try.ntmps70
  go_wp2_with fail
  refine (specBoxOk_any _ _ _ _).mono ?_
  rintro e w0 ⟨rfl, rfl⟩
  go_wp2_with fail
  clear hbox
  go_loopw [9] (fun s wr => ∃ i : Nat, i ≤ m ∧ s = .int .i64 i ∧ Hid (upFrom (fun i => srowB n c (rw' zss (i - 1)) (rw' zss i) i) i m = r) ∧ Hid (0 < i → (rw' zss (i - 1)).length = n) ∧ Below w.heap.size w wr) (fun s _ => m - (intOf s).toNat)
  case atStart => exact ⟨0, Nat.zero_le _, rfl, HR, (fun h => absurd h (Nat.lt_irrefl 0)), Below.refl _ _⟩
  case round =>
    obtain ⟨i, hi, rfl, HE, HL, hb⟩ := hrel
    by_cases hlt : i < m
    · have hs := upFrom_step (fun i => srowB n c (rw' zss (i - 1)) (rw' zss i) i) i m hlt
      obtain ⟨ad, u, rfl, hbl, hc, A', c', rfl, g1, g2, g3⟩ := H3.out i (by have := HM.out; omega)
      unfold maxLen at g2
      have hc' := (hb.cell (p := ad.add i) (by rw [addBlock]; omega)).trans hc
      have hiz : (0 : Int) ≤ (i : Int) := by omega
      have hil : (i : Int) < (zss.length : Int) := by omega
      clear hc
      by_cases hlb : (rw' zss i).length = n
      · have hro : srowB n c (rw' zss (i - 1)) (rw' zss i) i = upFrom (fun k => inB (el (rw' zss i) k) 0 c && !(fallB (rw' zss i) k || overB (rw' zss (i - 1)) (rw' zss i) i k)) 0 n := by
          rw [srowB, decide_eq_true hlb, Bool.true_and]
        have hnb : (((rw' zss i).length : Int) != (n : Int)) = false := by rw [bne_eq_false_iff_eq, hlb]
        have HI : Hid ((upFrom (fun k => inB (el (rw' zss i) k) 0 c && !(fallB (rw' zss i) k || overB (rw' zss (i - 1)) (rw' zss i) i k)) 0 n && upFrom (fun i => srowB n c (rw' zss (i - 1)) (rw' zss i) i) (i + 1) m) = r) := by
          unfold Hid; rw [← HE.out, hs, hro]
        have HLB := Lib.hid hlb
        have hln : (n : Int) ≤ ((rw' zss i).length : Int) := by omega
        have hti : decide ((i : Int) < (m : Int)) = true := by simp only [decide_eq_true_eq]; omega
        clear hs hro hlb
        go_wp2_with fail
        go_loopw [10] (fun s wr => ∃ k : Nat, k ≤ n ∧ s = .int .i64 k ∧ Hid ((upFrom (fun k => inB (el (rw' zss i) k) 0 c && !(fallB (rw' zss i) k || overB (rw' zss (i - 1)) (rw' zss i) i k)) k n && upFrom (fun i => srowB n c (rw' zss (i - 1)) (rw' zss i) i) (i + 1) m) = r) ∧ Below w.heap.size w wr) (fun s _ => n - (intOf s).toNat)
        case atStart => exact ⟨0, Nat.zero_le _, rfl, HI, hb⟩
        case round =>
          obtain ⟨k, hk, rfl, HE2, hb2⟩ := hrel
          have hc2 := (hb2.cell (p := ad.add i) (by rw [addBlock]; omega)).trans ((hb.cell (p := ad.add i) (by rw [addBlock]; omega)).symm.trans hc')
          clear hc' hb
          by_cases hlk : k < n
          · have hs := upFrom_step (fun k => inB (el (rw' zss i) k) 0 c && !(fallB (rw' zss i) k || overB (rw' zss (i - 1)) (rw' zss i) i k)) k n hlk
            obtain ⟨ad', rfl, hbl', hck⟩ := g3.el (show k < (rw' zss i).length by omega)
            have hckw := (hb2.cell (p := ad'.add k) (by rw [addBlock]; omega)).trans hck
            clear hck
            have hkz : (0 : Int) ≤ (k : Int) := by omega
            have hkl : (k : Int) < ((rw' zss i).length : Int) := by omega
            cases b0 : inB (el (rw' zss i) k) 0 c
            · have HF : Hid (r = false) := by unfold Hid; rw [← HE2.out, hs, b0]; rfl
              clear hs
              go_wp2_with fail
              go_quiet ((go_at_call 71; exact quietLeft (l01In_any _ _ _ _)))
              go_wp2_with fail
              go_ret
              exact ⟨ret_bool HF.out.symm, hb2.trans (Drawn.below ⟨_, rfl⟩ _)⟩
            · rcases seven (decide (0 < k)) (decide (el (rw' zss i) (k - 1) < el (rw' zss i) k)) (decide (0 < i)) (decide (el (rw' zss (i - 1)) k < el (rw' zss i) k)) with ⟨b1, b2⟩ | ⟨b1, b3⟩ | ⟨b1, b3, b4⟩ | ⟨b1, b3, b4⟩ | ⟨b1, b2, b3⟩ | ⟨b1, b2, b3, b4⟩ | ⟨b1, b2, b3, b4⟩
              · have HF : Hid (r = false) := by
                  unfold Hid; rw [← HE2.out, hs, show (inB (el (rw' zss i) k) 0 c && !(fallB (rw' zss i) k || overB (rw' zss (i - 1)) (rw' zss i) i k)) = false from by rw [b0, fallB, b1, b2]; rfl, Bool.false_and]; rfl
                have hk0 : 0 < k := by simpa using b1
                obtain ⟨ad2, had2, _, hck1⟩ := g3.el (show k - 1 < (rw' zss i).length by omega)
                obtain rfl : ad' = ad2 := Option.some.inj had2
                have hck1w := (hb2.cell (p := ad'.add (k - 1)) (by rw [addBlock]; omega)).trans hck1
                clear hck1 had2
                have e1 : IntKind.i64.wrap ((k : Int) - 1) = (k : Int) - 1 := IntWalk.i64_in _ (by omega)
                have e2 : 0 ≤ (k : Int) - 1 := by omega
                have e3 : ((k : Int) - 1).toNat = k - 1 := by omega
                have e4 : (k : Int) - 1 < ((rw' zss i).length : Int) := by omega
                clear hs
                go_wp2_with fail
                go_quiet ((go_at_call 71; exact quietLeft (l01In_any _ _ _ _)))
                go_wp2_with fail
                go_ret
                exact ⟨ret_bool HF.out.symm, hb2.trans (Drawn.below ⟨_, rfl⟩ _)⟩
              · have HN : Hid ((upFrom (fun k => inB (el (rw' zss i) k) 0 c && !(fallB (rw' zss i) k || overB (rw' zss (i - 1)) (rw' zss i) i k)) (k + 1) n && upFrom (fun i => srowB n c (rw' zss (i - 1)) (rw' zss i) i) (i + 1) m) = r) := by
                  unfold Hid; rw [← HE2.out, hs, show (inB (el (rw' zss i) k) 0 c && !(fallB (rw' zss i) k || overB (rw' zss (i - 1)) (rw' zss i) i k)) = true from by rw [b0, fallB, overB, b1, b3, Bool.false_and, Bool.false_and]; rfl, Bool.true_and]
                clear hs
                go_wp2_with fail
                go_quiet ((go_at_call 71; exact quietLeft (l01In_any _ _ _ _)))
                go_wp2_with fail
                go_roundw
                case rel => exact ⟨k + 1, by omega, by go_num, HN, hb2.trans (Drawn.below ⟨_, rfl⟩ _)⟩
                case measure => simp [intOf]; omega
              · have HF : Hid (r = false) := by
                  unfold Hid; rw [← HE2.out, hs, show (inB (el (rw' zss i) k) 0 c && !(fallB (rw' zss i) k || overB (rw' zss (i - 1)) (rw' zss i) i k)) = false from by rw [b0, fallB, overB, b1, b3, b4]; rfl, Bool.false_and]; rfl
                have hi0 : 0 < i := by simpa using b3
                obtain ⟨ad3, u3, had3, hbl3, hc3, A3, c3, rfl, q1, q2, q3⟩ := H3.out (i - 1) (by omega)
                obtain rfl : ad = ad3 := Option.some.inj had3
                have hlu : k < (rw' zss (i - 1)).length := by have h5 := HL.out hi0; have h6 := HLB.out; omega
                have hlu2 : (k : Int) < ((rw' zss (i - 1)).length : Int) := by omega
                obtain ⟨ad4, rfl, hbl4, hck4⟩ := q3.el hlu
                unfold maxLen at q2
                have hc3w := (hb2.cell (p := ad.add (i - 1)) (by rw [addBlock]; omega)).trans hc3
                have hck4w := (hb2.cell (p := ad4.add k) (by rw [addBlock]; omega)).trans hck4
                clear hc3 hck4 had3
                have e5 : IntKind.i64.wrap ((i : Int) - 1) = (i : Int) - 1 := IntWalk.i64_in _ (by omega)
                have e6 : 0 ≤ (i : Int) - 1 := by omega
                have e7 : ((i : Int) - 1).toNat = i - 1 := by omega
                have e8 : (i : Int) - 1 < (zss.length : Int) := by omega
                clear hs
                go_wp2_with fail
                go_quiet ((go_at_call 71; exact quietLeft (l01In_any _ _ _ _)))
                go_wp2_with fail
                go_ret
                exact ⟨ret_bool HF.out.symm, hb2.trans (Drawn.below ⟨_, rfl⟩ _)⟩
              · have HN : Hid ((upFrom (fun k => inB (el (rw' zss i) k) 0 c && !(fallB (rw' zss i) k || overB (rw' zss (i - 1)) (rw' zss i) i k)) (k + 1) n && upFrom (fun i => srowB n c (rw' zss (i - 1)) (rw' zss i) i) (i + 1) m) = r) := by
                  unfold Hid; rw [← HE2.out, hs, show (inB (el (rw' zss i) k) 0 c && !(fallB (rw' zss i) k || overB (rw' zss (i - 1)) (rw' zss i) i k)) = true from by rw [b0, fallB, overB, b1, b3, b4, Bool.false_and]; rfl, Bool.true_and]
                have hi0 : 0 < i := by simpa using b3
                obtain ⟨ad3, u3, had3, hbl3, hc3, A3, c3, rfl, q1, q2, q3⟩ := H3.out (i - 1) (by omega)
                obtain rfl : ad = ad3 := Option.some.inj had3
                have hlu : k < (rw' zss (i - 1)).length := by have h5 := HL.out hi0; have h6 := HLB.out; omega
                have hlu2 : (k : Int) < ((rw' zss (i - 1)).length : Int) := by omega
                obtain ⟨ad4, rfl, hbl4, hck4⟩ := q3.el hlu
                unfold maxLen at q2
                have hc3w := (hb2.cell (p := ad.add (i - 1)) (by rw [addBlock]; omega)).trans hc3
                have hck4w := (hb2.cell (p := ad4.add k) (by rw [addBlock]; omega)).trans hck4
                clear hc3 hck4 had3
                have e5 : IntKind.i64.wrap ((i : Int) - 1) = (i : Int) - 1 := IntWalk.i64_in _ (by omega)
                have e6 : 0 ≤ (i : Int) - 1 := by omega
                have e7 : ((i : Int) - 1).toNat = i - 1 := by omega
                have e8 : (i : Int) - 1 < (zss.length : Int) := by omega
                clear hs
                go_wp2_with fail
                go_quiet ((go_at_call 71; exact quietLeft (l01In_any _ _ _ _)))
                go_wp2_with fail
                go_roundw
                case rel => exact ⟨k + 1, by omega, by go_num, HN, hb2.trans (Drawn.below ⟨_, rfl⟩ _)⟩
                case measure => simp [intOf]; omega
              · have HN : Hid ((upFrom (fun k => inB (el (rw' zss i) k) 0 c && !(fallB (rw' zss i) k || overB (rw' zss (i - 1)) (rw' zss i) i k)) (k + 1) n && upFrom (fun i => srowB n c (rw' zss (i - 1)) (rw' zss i) i) (i + 1) m) = r) := by
                  unfold Hid; rw [← HE2.out, hs, show (inB (el (rw' zss i) k) 0 c && !(fallB (rw' zss i) k || overB (rw' zss (i - 1)) (rw' zss i) i k)) = true from by rw [b0, fallB, overB, b1, b2, b3, Bool.false_and]; rfl, Bool.true_and]
                have hk0 : 0 < k := by simpa using b1
                obtain ⟨ad2, had2, _, hck1⟩ := g3.el (show k - 1 < (rw' zss i).length by omega)
                obtain rfl : ad' = ad2 := Option.some.inj had2
                have hck1w := (hb2.cell (p := ad'.add (k - 1)) (by rw [addBlock]; omega)).trans hck1
                clear hck1 had2
                have e1 : IntKind.i64.wrap ((k : Int) - 1) = (k : Int) - 1 := IntWalk.i64_in _ (by omega)
                have e2 : 0 ≤ (k : Int) - 1 := by omega
                have e3 : ((k : Int) - 1).toNat = k - 1 := by omega
                have e4 : (k : Int) - 1 < ((rw' zss i).length : Int) := by omega
                clear hs
                go_wp2_with fail
                go_quiet ((go_at_call 71; exact quietLeft (l01In_any _ _ _ _)))
                go_wp2_with fail
                go_roundw
                case rel => exact ⟨k + 1, by omega, by go_num, HN, hb2.trans (Drawn.below ⟨_, rfl⟩ _)⟩
                case measure => simp [intOf]; omega
              · have HF : Hid (r = false) := by
                  unfold Hid; rw [← HE2.out, hs, show (inB (el (rw' zss i) k) 0 c && !(fallB (rw' zss i) k || overB (rw' zss (i - 1)) (rw' zss i) i k)) = false from by rw [b0, fallB, overB, b1, b2, b3, b4]; rfl, Bool.false_and]; rfl
                have hk0 : 0 < k := by simpa using b1
                obtain ⟨ad2, had2, _, hck1⟩ := g3.el (show k - 1 < (rw' zss i).length by omega)
                obtain rfl : ad' = ad2 := Option.some.inj had2
                have hck1w := (hb2.cell (p := ad'.add (k - 1)) (by rw [addBlock]; omega)).trans hck1
                clear hck1 had2
                have e1 : IntKind.i64.wrap ((k : Int) - 1) = (k : Int) - 1 := IntWalk.i64_in _ (by omega)
                have e2 : 0 ≤ (k : Int) - 1 := by omega
                have e3 : ((k : Int) - 1).toNat = k - 1 := by omega
                have e4 : (k : Int) - 1 < ((rw' zss i).length : Int) := by omega
                have hi0 : 0 < i := by simpa using b3
                obtain ⟨ad3, u3, had3, hbl3, hc3, A3, c3, rfl, q1, q2, q3⟩ := H3.out (i - 1) (by omega)
                obtain rfl : ad = ad3 := Option.some.inj had3
                have hlu : k < (rw' zss (i - 1)).length := by have h5 := HL.out hi0; have h6 := HLB.out; omega
                have hlu2 : (k : Int) < ((rw' zss (i - 1)).length : Int) := by omega
                obtain ⟨ad4, rfl, hbl4, hck4⟩ := q3.el hlu
                unfold maxLen at q2
                have hc3w := (hb2.cell (p := ad.add (i - 1)) (by rw [addBlock]; omega)).trans hc3
                have hck4w := (hb2.cell (p := ad4.add k) (by rw [addBlock]; omega)).trans hck4
                clear hc3 hck4 had3
                have e5 : IntKind.i64.wrap ((i : Int) - 1) = (i : Int) - 1 := IntWalk.i64_in _ (by omega)
                have e6 : 0 ≤ (i : Int) - 1 := by omega
                have e7 : ((i : Int) - 1).toNat = i - 1 := by omega
                have e8 : (i : Int) - 1 < (zss.length : Int) := by omega
                clear hs
                go_wp2_with fail
                go_quiet ((go_at_call 71; exact quietLeft (l01In_any _ _ _ _)))
                go_wp2_with fail
                go_ret
                exact ⟨ret_bool HF.out.symm, hb2.trans (Drawn.below ⟨_, rfl⟩ _)⟩
              · have HN : Hid ((upFrom (fun k => inB (el (rw' zss i) k) 0 c && !(fallB (rw' zss i) k || overB (rw' zss (i - 1)) (rw' zss i) i k)) (k + 1) n && upFrom (fun i => srowB n c (rw' zss (i - 1)) (rw' zss i) i) (i + 1) m) = r) := by
                  unfold Hid; rw [← HE2.out, hs, show (inB (el (rw' zss i) k) 0 c && !(fallB (rw' zss i) k || overB (rw' zss (i - 1)) (rw' zss i) i k)) = true from by rw [b0, fallB, overB, b1, b2, b3, b4]; rfl, Bool.true_and]
                have hk0 : 0 < k := by simpa using b1
                obtain ⟨ad2, had2, _, hck1⟩ := g3.el (show k - 1 < (rw' zss i).length by omega)
                obtain rfl : ad' = ad2 := Option.some.inj had2
                have hck1w := (hb2.cell (p := ad'.add (k - 1)) (by rw [addBlock]; omega)).trans hck1
                clear hck1 had2
                have e1 : IntKind.i64.wrap ((k : Int) - 1) = (k : Int) - 1 := IntWalk.i64_in _ (by omega)
                have e2 : 0 ≤ (k : Int) - 1 := by omega
                have e3 : ((k : Int) - 1).toNat = k - 1 := by omega
                have e4 : (k : Int) - 1 < ((rw' zss i).length : Int) := by omega
                have hi0 : 0 < i := by simpa using b3
                obtain ⟨ad3, u3, had3, hbl3, hc3, A3, c3, rfl, q1, q2, q3⟩ := H3.out (i - 1) (by omega)
                obtain rfl : ad = ad3 := Option.some.inj had3
                have hlu : k < (rw' zss (i - 1)).length := by have h5 := HL.out hi0; have h6 := HLB.out; omega
                have hlu2 : (k : Int) < ((rw' zss (i - 1)).length : Int) := by omega
                obtain ⟨ad4, rfl, hbl4, hck4⟩ := q3.el hlu
                unfold maxLen at q2
                have hc3w := (hb2.cell (p := ad.add (i - 1)) (by rw [addBlock]; omega)).trans hc3
                have hck4w := (hb2.cell (p := ad4.add k) (by rw [addBlock]; omega)).trans hck4
                clear hc3 hck4 had3
                have e5 : IntKind.i64.wrap ((i : Int) - 1) = (i : Int) - 1 := IntWalk.i64_in _ (by omega)
                have e6 : 0 ≤ (i : Int) - 1 := by omega
                have e7 : ((i : Int) - 1).toNat = i - 1 := by omega
                have e8 : (i : Int) - 1 < (zss.length : Int) := by omega
                clear hs
                go_wp2_with fail
                go_quiet ((go_at_call 71; exact quietLeft (l01In_any _ _ _ _)))
                go_wp2_with fail
                go_roundw
                case rel => exact ⟨k + 1, by omega, by go_num, HN, hb2.trans (Drawn.below ⟨_, rfl⟩ _)⟩
                case measure => simp [intOf]; omega
          · have HI2 : Hid (upFrom (fun i => srowB n c (rw' zss (i - 1)) (rw' zss i) i) (i + 1) m = r) := by
              unfold Hid; rw [← HE2.out, upFrom_end _ k _ (by omega)]; rfl
            go_wp2_with fail
            go_roundw
            case rel => exact ⟨i + 1, by omega, by go_num, HI2, fun _ => HLB.out, hb2⟩
            case measure => simp [intOf]; omega
      · have HF : Hid (r = false) := by unfold Hid; rw [← HE.out, hs, srowB, decide_eq_false hlb]; rfl
        have hnb : (((rw' zss i).length : Int) != (n : Int)) = true := by rw [bne_iff_ne]; omega
        clear hs hlb
        go_wp2_with fail
        go_ret
        exact ⟨ret_bool HF.out.symm, hb⟩
    · have HF : Hid (r = true) := by unfold Hid; rw [← HE.out, upFrom_end _ _ _ (by omega)]
      go_wp2_with fail
      go_ret
      exact ⟨ret_bool HF.out.symm, hb⟩

theorem specIsHeap_any (a b c : Int) (v : Value) (zss : List (List Int)) (B : Nat) (w : World) (h : RdII w B v zss) (hB : B ≤ w.heap.size) :
    Calls Try.prog 70 #[.int .i64 a, .int .i64 b, .int .i64 c, v] w fun e w' => e = .returned (.bool (heapB a b c zss)) ∧ Below w.heap.size w w' := by
  cases hbox : boxB a b c
  · obtain ⟨A, cp, rfl, h1, h2, h3⟩ := h.open_
    rw [show heapB a b c zss = false from by rw [heapB, hbox]; rfl]
    go_enter Try.func70, Try.ntmps70
    go_wp2_with fail
    refine (specBoxOk_any _ _ _ _).mono ?_
    rintro e w0 ⟨rfl, rfl⟩
    go_wp2_with fail
    go_ret
    exact ⟨rfl, Below.refl _ _⟩
  · by_cases hlen : (zss.length : Int) = a
    · obtain ⟨hm, hn, hc⟩ := (boxB_iff _ _ _).1 hbox
      obtain ⟨m, rfl⟩ := Int.eq_ofNat_of_zero_le (show 0 ≤ a by omega)
      obtain ⟨n, rfl⟩ := Int.eq_ofNat_of_zero_le (show 0 ≤ b by omega)
      exact specIsHeap_in m n c v zss B w h hB hbox (by omega)
    · obtain ⟨A, cp, rfl, h1, h2, h3⟩ := h.open_
      rw [show heapB a b c zss = false from by rw [heapB, hbox, decide_eq_false hlen]; rfl]
      unfold maxLen at h2
      have hne : ((zss.length : Int) != a) = true := by rw [bne_iff_ne]; exact hlen
      clear hlen
      go_enter Try.func70, Try.ntmps70
      go_wp2_with fail
      refine (specBoxOk_any _ _ _ _).mono ?_
      rintro e w0 ⟨rfl, rfl⟩
      go_wp2_with fail
      go_ret
      exact ⟨rfl, Below.refl _ _⟩
end Go.Proofs.Ytpockbbfbnaioaa
