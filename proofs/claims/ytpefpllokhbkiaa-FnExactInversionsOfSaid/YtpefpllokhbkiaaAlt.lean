/- Contracts of the lines of a matrix: isByTurns, l25Line, isSquare, l25Column. -/
import Derived.Test.YtpefpllokhbkiaaAltLaw
import Derived.Test.YtpefpllokhbkiaaRowPathS
namespace Go.Proofs.Ytpefpllokhbkiaa
open Go.RowKit

set_option maxHeartbeats 1000000 in
theorem isByTurns_any (v : Value) (zs : List Int) (B : Nat) (w : World) (h : RdI w B v zs) :
    Calls Try.prog 82 #[v] w fun e w' => e = .returned (.bool (byT zs)) ∧ w = w' := by
  obtain ⟨A, c, rfl, h1, h2, h3⟩ := h
  unfold maxLen at h2
  have H3 := Lib.hid h3; clear h3
  generalize hr : byT zs = r
  have HR : Hid ((upFrom (fun k => inB (psum zs (k + 1)) 0 1) 0 zs.length && (psum zs zs.length == 1)) = r) := hr
  clear hr
  go_enter Try.func82, Try.ntmps82
  go_wp2_with fail
  go_loop [3, 8] (fun s i => ∃ (k : Nat) (z : Int), k ≤ zs.length ∧ s = .int .i64 z ∧ i = .int .i64 k ∧ Hid (z = psum zs k) ∧ Hid ((upFrom (fun k => inB (psum zs (k + 1)) 0 1) k zs.length && (psum zs zs.length == 1)) = r)) (fun _ i => zs.length - (intOf i).toNat)
  case atStart => exact ⟨0, 0, Nat.zero_le _, rfl, rfl, rfl, HR⟩
  case round =>
    obtain ⟨k, z, hk, rfl, rfl, HZ, HE⟩ := hrel
    by_cases hlt : k < zs.length
    · have hs := upFrom_step (fun k => inB (psum zs (k + 1)) 0 1) k zs.length hlt
      have hp : psum zs (k + 1) = wrap64 (z + el zs k) := by rw [HZ.out]; rfl
      obtain ⟨ad, rfl, hb, hc⟩ := H3.out.el hlt
      cases hi : inB (wrap64 (z + el zs k)) 0 1
      · have HF : Hid (r = false) := by unfold Hid; rw [← HE.out, hs, hp, hi]; rfl
        clear hs hp
        go_wp2_with fail
        refine (within_any _ _ _ _).mono ?_
        rintro e w' ⟨rfl, rfl⟩
        go_wp2_with fail
        go_ret
        exact ⟨ret_bool HF.out.symm, rfl⟩
      · have HF : Hid ((upFrom (fun k => inB (psum zs (k + 1)) 0 1) (k + 1) zs.length && (psum zs zs.length == 1)) = r) := by unfold Hid; rw [← HE.out, hs, hp, hi]; rfl
        have HP := Lib.hid hp.symm
        clear hs hp
        go_wp2_with fail
        refine (within_any _ _ _ _).mono ?_
        rintro e w' ⟨rfl, rfl⟩
        go_wp2_with fail
        go_round
        case rel => exact ⟨k + 1, _, by omega, rfl, by go_num, HP, HF⟩
        case measure => simp [intOf]; omega
    · have HF : Hid ((z == 1) = r) := by unfold Hid; rw [← HE.out, upFrom_end _ _ _ (by omega), HZ.out, show k = zs.length by omega]; rfl
      go_wp2_with fail
      go_ret
      exact ⟨ret_bool HF.out, rfl⟩

set_option maxHeartbeats 1000000 in
theorem l25Line_any (v : Value) (zs : List Int) (B : Nat) (w : World) (h : RdI w B v zs) (hB : B ≤ w.heap.size) :
    Calls Try.prog 79 #[v] w fun e w' => e = .returned (.bool (lineB zs)) ∧ Below w.heap.size w w' := by
  obtain ⟨A, c, rfl, h1, h2, h3⟩ := h
  unfold maxLen at h2
  have H3 := Lib.hid h3; clear h3
  generalize hr : lineB zs = r
  have HR : Hid ((upFrom (fun k => inB (el zs k) (-1) 1 && inB (psum zs (k + 1)) 0 1) 0 zs.length && (psum zs zs.length == 1)) = r) := hr
  clear hr
  go_enter Try.func79, Try.ntmps79
  go_wp2_with fail
  go_loopw [3, 4] (fun s i wr => ∃ (k : Nat) (z : Int), k ≤ zs.length ∧ s = .int .i64 z ∧ i = .int .i64 k ∧ Hid (z = psum zs k) ∧ Hid ((upFrom (fun k => inB (el zs k) (-1) 1 && inB (psum zs (k + 1)) 0 1) k zs.length && (psum zs zs.length == 1)) = r) ∧ Below w.heap.size w wr) (fun _ i _ => zs.length - (intOf i).toNat)
  case atStart => exact ⟨0, 0, Nat.zero_le _, rfl, rfl, rfl, HR, Below.refl _ _⟩
  case round =>
    obtain ⟨k, z, hk, rfl, rfl, HZ, HE, hb⟩ := hrel
    by_cases hlt : k < zs.length
    · have hs := upFrom_step (fun k => inB (el zs k) (-1) 1 && inB (psum zs (k + 1)) 0 1) k zs.length hlt
      have hp : psum zs (k + 1) = wrap64 (z + el zs k) := by rw [HZ.out]; rfl
      obtain ⟨ad, rfl, hbl, hc⟩ := H3.out.el hlt
      have hcw := (hb.cell (p := ad.add k) (by rw [addBlock]; omega)).trans hc
      have hk0 : (0 : Int) ≤ (k : Int) := by omega
      have hk1 : (k : Int) < (zs.length : Int) := by omega
      clear hc
      rcases two_ (inB (el zs k) (-1) 1) (inB (wrap64 (z + el zs k)) 0 1) with b1 | ⟨b1, b2⟩ | ⟨b1, b2⟩
      · have HF : Hid (r = false) := by unfold Hid; rw [← HE.out, hs, b1]; rfl
        clear hs hp
        go_wp2_with fail
        refine (l01In_any _ _ _ _).mono ?_
        rintro e w' ⟨rfl, rfl⟩
        go_wp2_with fail
        go_ret
        exact ⟨ret_bool HF.out.symm, hb⟩
      · have HF : Hid (r = false) := by unfold Hid; rw [← HE.out, hs, hp, b1, b2]; rfl
        clear hs hp
        go_wp2_with fail
        refine (l01In_any _ _ _ _).mono ?_
        rintro e w' ⟨rfl, rfl⟩
        go_wp2_with fail
        refine (l01In_any _ _ _ _).mono ?_
        rintro e w' ⟨rfl, rfl⟩
        go_wp2_with fail
        go_ret
        exact ⟨ret_bool HF.out.symm, hb⟩
      · have HF : Hid ((upFrom (fun k => inB (el zs k) (-1) 1 && inB (psum zs (k + 1)) 0 1) (k + 1) zs.length && (psum zs zs.length == 1)) = r) := by unfold Hid; rw [← HE.out, hs, hp, b1, b2]; rfl
        have HP := Lib.hid hp.symm
        clear hs hp
        go_wp2_with fail
        refine (l01In_any _ _ _ _).mono ?_
        rintro e w' ⟨rfl, rfl⟩
        go_wp2_with fail
        refine (l01In_any _ _ _ _).mono ?_
        rintro e w' ⟨rfl, rfl⟩
        go_wp2_with fail
        go_roundw
        case rel => exact ⟨k + 1, _, by omega, rfl, by go_num, HP, HF, hb⟩
        case measure => simp [intOf]; omega
    · have HF : Hid ((z == 1) = r) := by unfold Hid; rw [← HE.out, upFrom_end _ _ _ (by omega), HZ.out, show k = zs.length by omega]; rfl
      go_wp2_with fail
      go_ret
      exact ⟨ret_bool HF.out, hb⟩

set_option maxHeartbeats 1000000 in
theorem isSquare_any (v : Value) (zss : List (List Int)) (B : Nat) (w : World) (h : RdII w B v zss) :
    Calls Try.prog 81 #[v] w fun e w' => e = .returned (.bool (sqB zss)) ∧ w = w' := by
  obtain ⟨A, c, rfl, h1, h2, h3⟩ := h.open_
  unfold maxLen at h2
  clear h
  have H3 := Lib.hid h3; clear h3
  generalize hr : sqB zss = r
  have HR : Hid ((upFrom (fun i => decide ((rw' zss i).length = zss.length) && allB (rw' zss i) (-1) 1) 0 zss.length && inB (zss.length : Int) 1 5) = r) := hr
  clear hr
  go_enter Try.func81, Try.ntmps81
  go_wp2_with fail
  go_loop [7] (fun s => ∃ i : Nat, i ≤ zss.length ∧ s = .int .i64 i ∧ Hid ((upFrom (fun i => decide ((rw' zss i).length = zss.length) && allB (rw' zss i) (-1) 1) i zss.length && inB (zss.length : Int) 1 5) = r)) (fun s => zss.length - (intOf s).toNat)
  case atStart => exact ⟨0, Nat.zero_le _, rfl, HR⟩
  case round =>
    obtain ⟨i, hi, rfl, HE⟩ := hrel
    by_cases hlt : i < zss.length
    · have hs := upFrom_step (fun i => decide ((rw' zss i).length = zss.length) && allB (rw' zss i) (-1) 1) i zss.length hlt
      obtain ⟨ad, u, rfl, hbl, hc, A', c', rfl, q1, q2, q3⟩ := H3.out i hlt
      have HU := Lib.hid (show RdI w B (.slice A' (rw' zss i).length c') (rw' zss i) from ⟨_, _, rfl, q1, q2, q3⟩)
      unfold maxLen at q2
      clear q3
      by_cases hl : (rw' zss i).length = zss.length
      · have hne : (((rw' zss i).length : Int) != (zss.length : Int)) = false := by rw [bne_eq_false_iff_eq, hl]
        cases ha : allB (rw' zss i) (-1) 1
        · have HF : Hid (r = false) := by unfold Hid; rw [← HE.out, hs, ha]; simp
          clear hs hl
          go_wp2_with fail
          refine (allWithin_any _ (rw' zss i) _ _ _ _ HU.out).mono ?_
          rintro e w' ⟨rfl, rfl⟩
          go_wp2_with fail
          go_ret
          exact ⟨ret_bool HF.out.symm, rfl⟩
        · have HF : Hid ((upFrom (fun i => decide ((rw' zss i).length = zss.length) && allB (rw' zss i) (-1) 1) (i + 1) zss.length && inB (zss.length : Int) 1 5) = r) := by unfold Hid; rw [← HE.out, hs, ha, hl]; simp
          clear hs hl
          go_wp2_with fail
          refine (allWithin_any _ (rw' zss i) _ _ _ _ HU.out).mono ?_
          rintro e w' ⟨rfl, rfl⟩
          go_wp2_with fail
          go_round
          case rel => exact ⟨i + 1, by omega, by go_num, HF⟩
          case measure => simp [intOf]; omega
      · have hne : (((rw' zss i).length : Int) != (zss.length : Int)) = true := by rw [bne_iff_ne]; omega
        have HF : Hid (r = false) := by unfold Hid; rw [← HE.out, hs, decide_eq_false hl]; rfl
        clear hs hl
        go_wp2_with fail
        go_ret
        exact ⟨ret_bool HF.out.symm, rfl⟩
    · have HF : Hid (inB (zss.length : Int) 1 5 = r) := by unfold Hid; rw [← HE.out, upFrom_end _ _ _ (by omega)]; rfl
      go_wp2_with fail
      refine (within_any _ _ _ _).mono ?_
      rintro e w' ⟨rfl, rfl⟩
      go_wp2_with fail
      go_ret
      exact ⟨ret_bool HF.out, rfl⟩

set_option maxHeartbeats 1000000 in
theorem l25Column_any (v : Value) (zss : List (List Int)) (k : Nat) (B : Nat) (w : World) (h : RdII w B v zss) (hB : B ≤ w.heap.size) (hl : zss.length ≤ 1048576) (hr : ∀ i, i < zss.length → k < (rw' zss i).length) :
    Calls Try.prog 80 #[v, .int .i64 k] w (RetOwnI w (colOf zss k zss.length)) := by
  obtain ⟨i0, hi0, hz0, hz1, hz2⟩ := info_parts infoInt
  obtain ⟨A, c, rfl, h1, h2, h3⟩ := h.open_
  unfold maxLen at h2
  clear h
  have H3 := Lib.hid h3; clear h3
  have HR := Lib.hid hr; clear hr
  go_enter Try.func80, Try.ntmps80
  go_wp2_with fail
  have HG0 := Lib.hid (GrowRel.start w)
  go_loopw [5, 6] (fun o s wr => ∃ (i : Nat) (u : Value) (zo : List Int), i ≤ zss.length ∧ s = .int .i64 i ∧ o = u ∧ Hid (GrowRel w wr u zo) ∧ Hid (zo = colOf zss k i) ∧ zo.length ≤ i) (fun _ s _ => zss.length - (intOf s).toNat)
  case atStart => exact ⟨0, _, [], by omega, rfl, rfl, HG0, rfl, Nat.le_refl _⟩
  case round =>
    obtain ⟨i, u, zo, hi, rfl, rfl, HT, HI, hz⟩ := hrel
    by_cases hlt : i < zss.length
    · obtain ⟨ad, ur, rfl, hbl, hc, A', c', rfl, q1, q2, q3⟩ := H3.out i hlt
      unfold maxLen at q2
      have hcw := (HT.out.2.cell (p := ad.add i) (by rw [addBlock]; omega)).trans hc
      have hkr := HR.out i hlt
      obtain ⟨ad', rfl, hbl', hck⟩ := q3.el hkr
      have hckw := (HT.out.2.cell (p := ad'.add k) (by rw [addBlock]; omega)).trans hck
      have hk0 : (0 : Int) ≤ (k : Int) := by omega
      have hk1 : (k : Int) < ((rw' zss i).length : Int) := by omega
      have hi0' : (0 : Int) ≤ (i : Int) := by omega
      have hi1' : (i : Int) < (zss.length : Int) := by omega
      clear hc hck q3
      go_wp2_with (at_builtin; refine wpList_append_lies _ rfl (.tmp 14) (.tmp 22) _ rfl w.heap.size 3 i0 _ 1 8 Try.underlying32 hi0 hz0 hz1 hz2 rfl (by omega) _ zo.length _ rfl (World.ownsRow.alloc HT.out.1 _) ⟨wr.heap.size, 0, none⟩ 1 1 [.int .i64 (el (rw' zss i) k)] rfl rfl (World.news_of_block (cs := #[.int .i64 (el (rw' zss i) k)]) (t := 3) (fr := (0, 0)) (heap_alloc_new wr _)) (by simp [Value.oneCell']) (by omega) (by unfold maxLen; omega) (by omega) (by simp; have := HT.out.2.size; omega) (wr.heap.size + 1) (by simp) ?_; intro gi capi wi hown hg hat hlti; have HS := Lib.hid (GrowRel.step HT.out hown hg); clear hown hg hat hlti)
      go_roundw
      case rel => exact ⟨i + 1, _, zo ++ [el (rw' zss i) k], by omega, by go_num, rfl, HS, by (unfold Hid; rw [HI.out, colOf]), by simp; omega⟩
      case measure => simp [intOf]; omega
    · have HF : Hid (zo = colOf zss k zss.length) := by unfold Hid; rw [HI.out, show i = zss.length by omega]
      go_wp2_with fail
      go_ret
      exact ⟨_, rfl, by rw [← HF.out]; exact HT.out.1, HT.out.2⟩
end Go.Proofs.Ytpefpllokhbkiaa
