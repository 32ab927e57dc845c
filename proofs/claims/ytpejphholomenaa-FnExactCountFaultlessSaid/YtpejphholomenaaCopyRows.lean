/- The contract of copyRows: a copy in new blocks. -/
import Derived.Test.YtpejphholomenaaRetM
namespace Go.Proofs.Ytpejphholomenaa
open Go.RowKit

theorem RowRel.ofCall {w wr w1 : World} {hi : Nat} {v : Value} {zss : List (List Int)} {u : Value} {zs : List Int} (h : MRel w wr hi v zss) (hb : Below wr.heap.size wr w1) (ho : OwnI w1 wr.heap.size u zs) : RowRel w w1 wr.heap.size v zss u zs := by
  obtain ⟨h1, h2, h3, h4⟩ := h.below hb
  exact ⟨⟨h1.more h.2.2.1, h2, hb.size, Nat.le_trans h4 h.2.2.1⟩, ho⟩
theorem take_row (zss : List (List Int)) (k : Nat) (h : k < zss.length) : zss.take (k + 1) = zss.take k ++ [rw' zss k] := by
  rw [rw_get zss k h, List.take_succ_eq_append_getElem h]

set_option maxHeartbeats 4000000 in
theorem copyRows_any (u : Value) (xss : List (List Int)) (B : Nat) (w : World) (h : RdII w B u xss) (hB : B ≤ w.heap.size) (hl : xss.length ≤ 1048576) (hr : ∀ i, i < xss.length → (rw' xss i).length ≤ 1048576) :
    Calls Try.prog 128 #[u] w (RetM w xss) := by
  obtain ⟨i0, hi0, hz0, hz1, hz2⟩ := info_parts infoInt
  obtain ⟨iR, hiR, hr0, hr1, hr2⟩ := info_parts infoRow
  obtain ⟨A, c, rfl, h1, h2, h3⟩ := h.open_
  unfold maxLen at h2
  clear h
  have H3 := Lib.hid h3; clear h3
  have HR := Lib.hid hr; clear hr
  go_enter Try.func128, Try.ntmps128
  go_wp2_with fail
  have HM0 := Lib.hid (MRel.start w)
  go_loopw [3, 9] (fun o s wr => ∃ (k hi : Nat) (v : Value) (zss : List (List Int)), k ≤ xss.length ∧ s = .int .i64 k ∧ o = v ∧ Hid (MRel w wr hi v zss) ∧ Hid (zss = xss.take k) ∧ zss.length ≤ k) (fun _ s _ => xss.length - (intOf s).toNat)
  case atStart => exact ⟨0, _, _, [], Nat.zero_le _, rfl, rfl, HM0, (by simp [Hid]), Nat.le_refl _⟩
  case round =>
    obtain ⟨k, hi, v, zss, hk, rfl, ho, HM, HZ, hzl⟩ := hrel
    rw [← ho] at HM
    clear ho
    by_cases hlt : k < xss.length
    · obtain ⟨ad, ur, rfl, hbl, hc, A1, c1, rfl, q1, q2, q3⟩ := H3.out k hlt
      have hb := HM.out.2.1
      have hcw := (hb.cell (p := ad.add k) (by rw [addBlock]; omega)).trans hc
      have HU := Lib.hid ((show RdI w B (.slice A1 (rw' xss k).length c1) (rw' xss k) from ⟨_, _, rfl, q1, q2, q3⟩).below (hb.mono hB))
      have hsz := hb.size
      have hrl := HR.out k hlt
      have hk0 : (0 : Int) ≤ (k : Int) := by omega
      have hk1 : (k : Int) < (xss.length : Int) := by omega
      clear hc q3 hb
      go_wp2_with fail
      refine (copyOf_any _ (rw' xss k) _ _ HU.out (by omega) (by omega)).mono ?_
      rintro e w1 ⟨u1, rfl, ho1, hb1⟩
      have HT := Lib.hid (RowRel.ofCall HM.out hb1 ho1)
      have HX := Lib.hid (take_row xss k hlt)
      generalize rw' xss k = zs at *
      obtain ⟨vs, hv1, hv2⟩ := HT.out.1.1
      have HVL : Hid (vs.length = zss.length) := by have := hv1.1; unfold Hid; omega
      have HV1 := Lib.hid hv1
      have HV2 := Lib.hid hv2
      obtain ⟨A', c', rfl, hq1, hq2, _⟩ := HT.out.2.rd
      clear hv1 hv2 ho1
      go_wp2_with (at_builtin; refine wpList_append_lies _ rfl (.tmp 13) (.tmp 16) _ rfl w.heap.size 34 iR _ 1 24 Try.underlying28 hiR hr0 hr1 hr2 rfl (by omega) _ zss.length _ rfl (World.ownsRow.alloc HV1.out _) ⟨w1.heap.size, 0, none⟩ 1 1 [.slice A' zs.length c'] rfl rfl (World.news_of_block (cs := #[.slice A' zs.length c']) (t := 34) (fr := (0, 0)) (heap_alloc_new w1 _)) (by simp [Value.oneCell']) (by omega) (by unfold maxLen; omega) (by omega) (by simp; have := HT.out.1.2.1.size; omega) (w1.heap.size + 1) (by simp) ?_; intro gi capi wi hown hg hat hlti; have HS := Lib.hid (RowRel.push HT.out HV2.out HVL.out hown hg hat hlti); clear hown hg hat hlti)
      go_roundw
      case rel => exact ⟨k + 1, _, _, _, by omega, by go_num, rfl, HS, (by unfold Hid; rw [HX.out, ← HZ.out]), by simp; omega⟩
      case measure => simp [intOf]; omega
    · have HK : Hid (zss = xss) := by unfold Hid; rw [HZ.out, List.take_of_length_le (by omega)]
      go_wp2_with fail
      go_ret
      exact ⟨_, hi, rfl, by rw [← HK.out]; exact HM.out.1, HM.out.2.2.1, HM.out.2.1⟩
end Go.Proofs.Ytpejphholomenaa
