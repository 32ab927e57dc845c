/- Contracts of l22Row (a row of the reference) and of ArePathsApart of the program and of the reference. -/
import Derived.Test.YtpefpllokhbkiaaHeap
namespace Go.Proofs.Ytpefpllokhbkiaa
open Go.RowKit

/-- A contract that leaves the world alone, for a region that draws. -/
theorem quietLeft {P : Program} {f : FuncId} {args : Array Value} {w : World} {n : Nat} {v : Value}
    (h : Calls P f args (w.drewN n) fun e w' => e = .returned v ∧ w.drewN n = w') : Calls P f args (w.drewN n) fun e w'' => e = .returned v ∧ ∃ m, w'' = w.drewN m :=
  h.mono fun _ _ ⟨he, hm⟩ => ⟨he, n, hm.symm⟩

theorem three_ : ∀ b1 b2 b3 : Bool, b1 = false ∨ (b1 = true ∧ b2 = false) ∨ (b1 = true ∧ b2 = true ∧ b3 = false) ∨ (b1 = true ∧ b2 = true ∧ b3 = true) := by decide

set_option maxHeartbeats 2000000 in
theorem l22Row_any (b c : Int) (v : Value) (zs : List Int) (B : Nat) (w : World) (h : RdI w B v zs) (hB : B ≤ w.heap.size) :
    Calls Try.prog 65 #[.int .i64 b, .int .i64 c, v] w fun e w' => e = .returned (.bool (rowB b c zs)) ∧ Below w.heap.size w w' := by
  obtain ⟨A, cp, rfl, h1, h2, h3⟩ := h
  unfold maxLen at h2
  generalize hr : rowB b c zs = r
  have HR : Hid ((upFrom (fun k => inB (el zs k) 0 c && !fallB zs k) 0 zs.length && (inB b 1 3 && inB c 1 3 && decide ((zs.length : Int) = b))) = r) := hr
  clear hr
  go_enter Try.func65, Try.ntmps65
  go_wp2_with fail
  go_loopw [7] (fun s wr => ∃ k : Nat, k ≤ zs.length ∧ s = .int .i64 k ∧ Hid ((upFrom (fun k => inB (el zs k) 0 c && !fallB zs k) k zs.length && (inB b 1 3 && inB c 1 3 && decide ((zs.length : Int) = b))) = r) ∧ Below w.heap.size w wr) (fun s _ => zs.length - (intOf s).toNat)
  case atStart => exact ⟨0, Nat.zero_le _, rfl, HR, Below.refl _ _⟩
  case round =>
    obtain ⟨k, hk, rfl, HE, hb⟩ := hrel
    by_cases hlk : k < zs.length
    · have hs := upFrom_step (fun k => inB (el zs k) 0 c && !fallB zs k) k zs.length hlk
      obtain ⟨ad, rfl, hbl, hck⟩ := h3.el hlk
      have hckw := (hb.cell (p := ad.add k) (by rw [addBlock]; omega)).trans hck
      clear hck
      have hkz : (0 : Int) ≤ (k : Int) := by omega
      have hkl : (k : Int) < (zs.length : Int) := by omega
      rcases three_ (inB (el zs k) 0 c) (decide (0 < k)) (decide (el zs (k - 1) < el zs k)) with b1 | ⟨b1, b2⟩ | ⟨b1, b2, b3⟩ | ⟨b1, b2, b3⟩
      · have HF : Hid (r = false) := by unfold Hid; rw [← HE.out, hs, b1]; rfl
        clear hs
        go_wp2_with fail
        go_quiet ((go_at_call 62; exact quietLeft (l01In_any _ _ _ _)))
        go_wp2_with fail
        go_ret
        exact ⟨ret_bool HF.out.symm, hb.trans (Drawn.below ⟨_, rfl⟩ _)⟩
      · have HN : Hid ((upFrom (fun k => inB (el zs k) 0 c && !fallB zs k) (k + 1) zs.length && (inB b 1 3 && inB c 1 3 && decide ((zs.length : Int) = b))) = r) := by
          unfold Hid; rw [← HE.out, hs, b1, fallB, b2]; rfl
        clear hs
        go_wp2_with fail
        go_quiet ((go_at_call 62; exact quietLeft (l01In_any _ _ _ _)))
        go_wp2_with fail
        go_roundw
        case rel => exact ⟨k + 1, by omega, by go_num, HN, hb.trans (Drawn.below ⟨_, rfl⟩ _)⟩
        case measure => simp [intOf]; omega
      · have HN : Hid ((upFrom (fun k => inB (el zs k) 0 c && !fallB zs k) (k + 1) zs.length && (inB b 1 3 && inB c 1 3 && decide ((zs.length : Int) = b))) = r) := by
          unfold Hid; rw [← HE.out, hs, b1, fallB, b2, b3]; rfl
        have hk0 : 0 < k := by simpa using b2
        obtain ⟨ad2, had2, _, hck1⟩ := h3.el (show k - 1 < zs.length by omega)
        obtain rfl : ad = ad2 := Option.some.inj had2
        have hck1w := (hb.cell (p := ad.add (k - 1)) (by rw [addBlock]; omega)).trans hck1
        clear hck1 had2
        have e1 : IntKind.i64.wrap ((k : Int) - 1) = (k : Int) - 1 := IntWalk.i64_in _ (by omega)
        have e2 : 0 ≤ (k : Int) - 1 := by omega
        have e3 : ((k : Int) - 1).toNat = k - 1 := by omega
        have e4 : (k : Int) - 1 < (zs.length : Int) := by omega
        clear hs
        go_wp2_with fail
        go_quiet ((go_at_call 62; exact quietLeft (l01In_any _ _ _ _)))
        go_wp2_with fail
        go_roundw
        case rel => exact ⟨k + 1, by omega, by go_num, HN, hb.trans (Drawn.below ⟨_, rfl⟩ _)⟩
        case measure => simp [intOf]; omega
      · have HF : Hid (r = false) := by unfold Hid; rw [← HE.out, hs, b1, fallB, b2, b3]; rfl
        have hk0 : 0 < k := by simpa using b2
        obtain ⟨ad2, had2, _, hck1⟩ := h3.el (show k - 1 < zs.length by omega)
        obtain rfl : ad = ad2 := Option.some.inj had2
        have hck1w := (hb.cell (p := ad.add (k - 1)) (by rw [addBlock]; omega)).trans hck1
        clear hck1 had2
        have e1 : IntKind.i64.wrap ((k : Int) - 1) = (k : Int) - 1 := IntWalk.i64_in _ (by omega)
        have e2 : 0 ≤ (k : Int) - 1 := by omega
        have e3 : ((k : Int) - 1).toNat = k - 1 := by omega
        have e4 : (k : Int) - 1 < (zs.length : Int) := by omega
        clear hs
        go_wp2_with fail
        go_quiet ((go_at_call 62; exact quietLeft (l01In_any _ _ _ _)))
        go_wp2_with fail
        go_ret
        exact ⟨ret_bool HF.out.symm, hb.trans (Drawn.below ⟨_, rfl⟩ _)⟩
    · have HN : Hid ((inB b 1 3 && inB c 1 3 && decide ((zs.length : Int) = b)) = r) := by
        unfold Hid; rw [← HE.out, upFrom_end _ k _ (by omega)]; rfl
      clear HE
      cases hb1 : inB b 1 3
      · have HF : Hid (r = false) := by unfold Hid; rw [← HN.out, hb1]; rfl
        go_wp2_with fail
        refine (l01In_any _ _ _ _).mono ?_
        rintro e w1 ⟨rfl, rfl⟩
        go_wp2_with fail
        go_ret
        exact ⟨ret_bool HF.out.symm, hb⟩
      · cases hc1 : inB c 1 3
        · have HF : Hid (r = false) := by unfold Hid; rw [← HN.out, hb1, hc1]; rfl
          go_wp2_with fail
          refine (l01In_any _ _ _ _).mono ?_
          rintro e w1 ⟨rfl, rfl⟩
          go_wp2_with fail
          refine (l01In_any _ _ _ _).mono ?_
          rintro e w1 ⟨rfl, rfl⟩
          go_wp2_with fail
          go_ret
          exact ⟨ret_bool HF.out.symm, hb⟩
        · have HF : Hid (r = ((zs.length : Int) == b)) := by
            unfold Hid; rw [← HN.out, hb1, hc1, Bool.true_and, Bool.true_and, Bool.eq_iff_iff]; simp
          go_wp2_with fail
          refine (l01In_any _ _ _ _).mono ?_
          rintro e w1 ⟨rfl, rfl⟩
          go_wp2_with fail
          refine (l01In_any _ _ _ _).mono ?_
          rintro e w1 ⟨rfl, rfl⟩
          go_wp2_with fail
          go_ret
          exact ⟨ret_bool HF.out.symm, hb⟩

end Go.Proofs.Ytpefpllokhbkiaa
