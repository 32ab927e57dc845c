/- The contract of the reference's PathRow. -/
import Derived.Test.YtpefpllokhbkiaaPathRow
namespace Go.Proofs.Ytpefpllokhbkiaa
open Go.RowKit

theorem pathZ_nil (b c : Int) : pathZ b c [] = [] := by
  rw [pathZ]
  cases h : rowB b c [] with
  | false => rfl
  | true => obtain ⟨_, hb, _, hl⟩ := (rowB_iff _ _ _).1 h
            simp at hl; omega
theorem emptyOwn (w : World) (lo : Nat) (h : lo ≤ w.heap.size) : OwnI (w.alloc (.cells #[] 3)) lo (.slice (some ⟨w.heap.size, 0, none⟩) 0 0) [] := by
  simpa [OwnI] using World.ownsRow_lit (base := lo) (e := 3) (size := 1) w #[] 0 h (by simp [maxLen]) (by simp)

/-- What follows the loop, whatever the row. -/
theorem pathZ_len (b c : Int) (zo : List Int) : (rowB b c zo = false ∧ pathZ b c zo = []) ∨ (rowB b c zo = true ∧ pathZ b c zo = pathL c zo ∧ 0 < (pathZ b c zo).length) := by
  cases h : rowB b c zo
  · exact .inl ⟨rfl, by rw [pathZ, h]; rfl⟩
  · have h1 : pathZ b c zo = pathL c zo := by rw [pathZ, h]; rfl
    have h2 := pathL_len b c zo h
    obtain ⟨_, hb, hc, _⟩ := (rowB_iff _ _ _).1 h
    exact .inr ⟨rfl, h1, by rw [h1]; omega⟩

set_option maxRecDepth 100000 in
set_option maxHeartbeats 4000000 in
theorem specPathRow_any (b c : Int) (u : Value) (st : List Int) (B : Nat) (w : World) (h : RdI w B u st) (hB : B ≤ w.heap.size) (hl : st.length ≤ 1048576) :
    Calls Try.prog 55 #[.int .i64 b, .int .i64 c, u] w (RetOwnB w (prow c st st.length).1 (prB b c st)) := by
  obtain ⟨i0, hi0, hz0, hz1, hz2⟩ := info_parts infoInt
  have HU := Lib.hid h
  obtain ⟨A, cp, rfl, h1, h2, h3⟩ := h
  unfold maxLen at h2
  have H3 := Lib.hid h3
  clear h3
  generalize hok : prB b c st = ok
  have HOK := Lib.hid hok
  clear hok
  have HG0 := Lib.hid (GrowRel.start w)
  by_cases h6 : (st.length : Int) ≤ 6
  · go_enter Try.func55, Try.ntmps55
    go_wp2_with fail
    go_loopw [8, 9, 10] (fun o h s wr => ∃ (k : Nat) (v : Value) (zo : List Int) (h' : Int), k ≤ st.length ∧ s = .int .i64 k ∧ o = v ∧ h = .int .i64 h' ∧ Hid (GrowRel w wr v zo) ∧ Hid ((zo, h') = prow c st k) ∧ zo.length ≤ k) (fun _ _ s _ => st.length - (intOf s).toNat)
    case atStart => exact ⟨0, _, [], c, by omega, rfl, rfl, rfl, HG0, rfl, by simp⟩
    case round =>
      obtain ⟨k, v, zo, h', hk, rfl, rfl, rfl, HT, HI, hz4⟩ := hrel
      by_cases hlt : k < st.length
      · obtain ⟨ad, rfl, hbl, hck⟩ := H3.out.el (k := k) hlt
        have hckw := (HT.out.2.cell (p := ad.add k) (by rw [addBlock]; omega)).trans hck
        have hk0 : (0 : Int) ≤ (k : Int) := by omega
        have hk1 : (k : Int) < (st.length : Int) := by omega
        clear hck
        cases hz : el st k == 0
        · cases ho : el st k == 1
          · have HF : Hid (ok = false) := by unfold Hid; rw [← HOK.out]; exact prB_bad b c st k hlt hz ho
            go_wp2_with fail
            go_ret2
            exact retOwnB_no HF.out (emptyOwn _ _ HT.out.2.size) (HT.out.2.alloc HT.out.2.size _)
          · have HE := Lib.hid (prow_step1 c st k hz)
            go_wp2_with (at_builtin; refine wpList_append_lies _ rfl (.tmp 36) (.tmp 38) _ rfl w.heap.size 3 i0 _ 1 8 Try.underlying32 hi0 hz0 hz1 hz2 rfl (by omega) _ zo.length _ rfl (World.ownsRow.alloc HT.out.1 _) ⟨wr.heap.size, 0, none⟩ 1 1 [.int .i64 h'] rfl rfl (World.news_of_block (cs := #[.int .i64 h']) (t := 3) (fr := (0, 0)) (heap_alloc_new wr _)) (by simp [Value.oneCell']) (by omega) (by unfold maxLen; omega) (by omega) (by simp; have := HT.out.2.size; omega) (wr.heap.size + 1) (by simp) ?_; intro gi capi wi hown hg hat hlti; have HS := Lib.hid (GrowRel.step HT.out hown hg); clear hown hg hat hlti)
            go_roundw
            case rel => exact ⟨k + 1, _, zo ++ [h'], h', by omega, by go_num, rfl, rfl, HS, by (unfold Hid; rw [HE.out, ← HI.out]), by simp; omega⟩
            case measure => simp [intOf]; omega
        · have HE := Lib.hid (prow_step0 c st k hz)
          go_wp2_with fail
          go_roundw
          case rel => exact ⟨k + 1, _, zo, wrap64 (h' - 1), by omega, by go_num, rfl, rfl, HT, by (unfold Hid; rw [HE.out, ← HI.out]), by omega⟩
          case measure => simp [intOf]; omega
      · have HK : Hid (zo = (prow c st st.length).1) := by
          unfold Hid
          rw [show st.length = k by omega, ← HI.out]
        go_wp2_with fail
        refine (specRowPath_any _ _ _ zo _ _ HT.out.1.rd (Nat.le_refl _)).mono ?_
        rintro e w2 ⟨v2, rfl, ho2, hb2⟩
        have hT2 := Lib.hid (HT.out.below hb2)
        obtain ⟨A2, c2, hv2, _⟩ := ho2.rd
        rcases pathZ_len b c zo with ⟨hrow, hp⟩ | ⟨hrow, hp, hpos⟩
        · have HF : Hid (ok = false) := by unfold Hid; rw [← HOK.out, prB, ← HK.out, hrow]; rfl
          rw [hp] at hv2
          rw [hv2]
          clear hv2 hp hrow ho2
          go_wp2_with fail
          go_ret2
          exact retOwnB_no HF.out (emptyOwn _ _ hT2.out.2.size) (hT2.out.2.alloc hT2.out.2.size _)
        · have HP := Lib.hid hp
          have hne : (((pathZ b c zo).length : Int) == 0) = false := by rw [beq_eq_false_iff_ne]; omega
          have HO2 := Lib.hid ho2
          rw [hv2] at HO2 ⊢
          clear hv2 ho2 hp
          go_wp2_with fail
          refine (l13Ints_any _ _ (pathZ b c zo) st _ _ _ HO2.out.rd (HU.out.below (hT2.out.2.mono hB))).mono ?_
          rintro e w3 ⟨rfl, hd3⟩
          have hT3 := Lib.hid (hT2.out.below (hd3.below _))
          cases heq : pathZ b c zo == st
          · have HF : Hid (ok = false) := by unfold Hid; rw [← HOK.out, prB, ← HK.out, ← HP.out, heq]; simp
            go_wp2_with fail
            go_ret2
            exact retOwnB_no HF.out (emptyOwn _ _ hT3.out.2.size) (hT3.out.2.alloc hT3.out.2.size _)
          · have HF : Hid (ok = true) := by unfold Hid; rw [← HOK.out, prB, ← HK.out, ← HP.out, heq, hrow]; rfl
            go_wp2_with fail
            go_ret2
            exact retOwnB_yes HF.out (by rw [← HK.out]; exact hT3.out.1) hT3.out.2
  · have HF : Hid (ok = false) := by unfold Hid; rw [← HOK.out]; exact prB_big b c st (by omega)
    have h0 : (0 : Int) < (st.length : Int) := by omega
    go_enter Try.func55, Try.ntmps55
    go_wp2_with fail
    go_loopw [8, 9, 10] (fun o h s wr => o = .slice (some ⟨w.heap.size, 0, none⟩) 0 0 ∧ h = .int .i64 c ∧ s = .int .i64 0 ∧ wr = w.alloc (.cells #[] 3)) (fun _ _ _ _ => 0)
    case atStart => exact ⟨rfl, rfl, rfl, rfl⟩
    case round =>
      obtain ⟨rfl, rfl, rfl, rfl⟩ := hrel
      go_wp2_with fail
      refine (specRowPath_any _ _ _ [] _ _ HG0.out.1.rd (Nat.le_refl _)).mono ?_
      rintro e w2 ⟨v2, rfl, ho2, hb2⟩
      have hT2 := Lib.hid (HG0.out.below hb2)
      rw [pathZ_nil] at ho2
      obtain ⟨A2, c2, hv2, _⟩ := ho2.rd
      rw [hv2]
      clear hv2 ho2
      go_wp2_with fail
      go_ret2
      exact retOwnB_no HF.out (emptyOwn _ _ hT2.out.2.size) (hT2.out.2.alloc hT2.out.2.size _)
end Go.Proofs.Ytpefpllokhbkiaa
