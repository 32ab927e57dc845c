/- The contract of the reference's RowPath. -/
import Derived.Test.YtpefpllokhbkiaaRowPath
namespace Go.Proofs.Ytpefpllokhbkiaa
open Go.RowKit

/-- One row of the call's own that grows. -/
def GrowRel (w wr : World) (v : Value) (zs : List Int) : Prop := OwnI wr w.heap.size v zs ∧ Below w.heap.size w wr
theorem GrowRel.step {w wr w1 : World} {v : Value} {zs : List Int} {z : Int} {g cap : Nat} (h : GrowRel w wr v zs)
    (hown : w1.ownsRow w.heap.size 3 1 (.slice (some ⟨g, 0, none⟩) (zs.length + 1) cap) (zs.length + 1) (zs.map (Value.int .i64) ++ [.int .i64 z]))
    (hg : (wr.alloc (.cells #[.int .i64 z] 3)).grownBy w1 v.ownBlock) : GrowRel w w1 (.slice (some ⟨g, 0, none⟩) (zs.length + 1) cap) (zs ++ [z]) :=
  ⟨OwnI.one rfl hown, (h.2.alloc h.2.size _).grown hg (by simp; have := h.2.size; omega) (fun k hk => (h.1.lt k hk).1)⟩
theorem GrowRel.start (w : World) : GrowRel w (w.alloc (.cells #[] 3)) (.slice (some ⟨w.heap.size, 0, none⟩) 0 0) [] :=
  ⟨by simpa [OwnI] using World.ownsRow_lit (base := w.heap.size) (e := 3) (size := 1) w #[] 0 (Nat.le_refl _) (by simp [maxLen]) (by simp), (Below.refl _ _).alloc (Nat.le_refl _) _⟩
theorem GrowRel.below {w wr w1 : World} {v : Value} {zs : List Int} (h : GrowRel w wr v zs) (hb : Below wr.heap.size wr w1) : GrowRel w w1 v zs :=
  ⟨h.1.below hb, h.2.trans (hb.mono h.2.size)⟩

set_option maxRecDepth 100000 in
set_option maxHeartbeats 4000000 in
theorem specRowPath_yes (n : Nat) (c : Int) (v : Value) (zs : List Int) (B : Nat) (w : World) (h : RdI w B v zs) (hB : B ≤ w.heap.size) (hr : rowB n c zs = true) :
    Calls Try.prog 25 #[.int .i64 n, .int .i64 c, v] w (RetOwnI w (pathL c zs)) := by
  obtain ⟨i0, hi0, hz0, hz1, hz2⟩ := info_parts infoInt
  obtain ⟨hel, hbb, hcc, hlb⟩ := (rowB_iff _ _ _).1 hr
  have HU := Lib.hid h
  have hn3 : n ≤ 3 := by omega
  have HL : Hid (zs.length = n) := by unfold Hid; omega
  have hln : (n : Int) ≤ (zs.length : Int) := by omega
  have HR := Lib.hid hr
  obtain ⟨A, cp, rfl, h1, h2, h3⟩ := h
  unfold maxLen at h2
  have H3 := Lib.hid h3
  clear hel h3 hlb
  go_enter Try.func25, Try.ntmps25
  go_wp2_with fail
  have hb0 : Below w.heap.size w (w.alloc (.cells #[] 3)) := (Below.refl _ _).alloc (Nat.le_refl _) _
  refine (l22Row_any _ _ _ zs B _ (HU.out.below (hb0.mono hB)) (by simp; omega)).mono ?_
  rintro e w1 ⟨rfl, hb1⟩
  go_wp2_with fail
  clear hr
  have HG0 := Lib.hid ((GrowRel.start w).below hb1)
  clear hb1 hb0
  go_loopw [7, 8, 9] (fun o h s wr => ∃ (k : Nat) (v : Value) (zo : List Int) (h' : Int), k ≤ n ∧ s = .int .i64 k ∧ o = v ∧ h = .int .i64 h' ∧ Hid (GrowRel w wr v zo) ∧ Hid (zo = outTo c zs k ∧ h' = hgt c zs k) ∧ 0 ≤ h' ∧ h' ≤ c ∧ (zo.length : Int) + h' ≤ c + k) (fun _ _ s _ => n - (intOf s).toNat)
  case atStart => exact ⟨0, _, [], c, by omega, rfl, rfl, rfl, HG0, ⟨rfl, rfl⟩, by omega, by omega, by simp⟩
  case round =>
    obtain ⟨k, v, zo, h', hk, rfl, rfl, rfl, HT, HI, hh0, hhc, hsz⟩ := hrel
    by_cases hlt : k < n
    · obtain ⟨e1, e2⟩ := el_bd n c zs HR.out k (by have := HL.out; omega)
      have hnn : el zs k ≤ h' := by rw [HI.out.2]; exact e2
      have HI1 := Lib.hid hnn
      obtain ⟨ad, rfl, hbl, hck⟩ := H3.out.el (k := k) (by have := HL.out; omega)
      have HCK := Lib.hid hck
      have hti : decide ((k : Int) < (n : Int)) = true := by simp only [decide_eq_true_eq]; omega
      have hk0 : (0 : Int) ≤ (k : Int) := by omega
      have hk1 : (k : Int) < (zs.length : Int) := by omega
      clear e2 hnn hck
      obtain ⟨wo, rfl⟩ : ∃ wo : World, wo = wr := ⟨_, rfl⟩
      go_wp2_with fail
      go_loopw [7, 8] (fun o h wr => ∃ (v : Value) (zi : List Int) (hi : Int), o = v ∧ h = .int .i64 hi ∧ Hid (GrowRel w wr v zi) ∧ Hid (zi = zo ++ List.replicate (h' - hi).toNat 0) ∧ el zs k ≤ hi ∧ hi ≤ h' ∧ (zi.length : Int) + hi ≤ c + k) (fun _ h _ => (intOf h - el zs k).toNat)
      case atStart => exact ⟨_, zo, h', rfl, rfl, HT, by (unfold Hid; simp), HI1.out, by omega, hsz⟩
      case round =>
        obtain ⟨vi, zi, hi, rfl, rfl, HTi, HZi, hi1, hi2, hszi⟩ := hrel
        have hckw := (HTi.out.2.cell (p := ad.add k) (by rw [addBlock]; omega)).trans HCK.out
        by_cases hgt0 : el zs k < hi
        · go_wp2_with (at_builtin; refine wpList_append_lies _ rfl (.tmp 29) (.tmp 30) _ rfl w.heap.size 3 i0 _ 1 8 Try.underlying32 hi0 hz0 hz1 hz2 rfl (by omega) _ zi.length _ rfl (World.ownsRow.alloc HTi.out.1 _) ⟨wr.heap.size, 0, none⟩ 1 1 [.int .i64 0] rfl rfl (World.news_of_block (cs := #[.int .i64 0]) (t := 3) (fr := (0, 0)) (heap_alloc_new wr _)) (by simp [Value.oneCell']) (by omega) (by unfold maxLen; omega) (by omega) (by simp; have := HTi.out.2.size; omega) (wr.heap.size + 1) (by simp) ?_; intro gi capi wi hown hg hat hlti; have HS := Lib.hid (GrowRel.step HTi.out hown hg); clear hown hg hat hlti)
          go_roundw
          case rel => exact ⟨_, zi ++ [0], hi - 1, rfl, rfl, HS, by (unfold Hid; rw [HZi.out, rep_succ _ _ (by omega)]), by omega, by omega, by simp; omega⟩
          case measure => simp [intOf]; omega
        · have HE : Hid (hi = el zs k) := by unfold Hid; omega
          go_wp2_with (at_builtin; refine wpList_append_lies _ rfl (.tmp 34) (.tmp 35) _ rfl w.heap.size 3 i0 _ 1 8 Try.underlying32 hi0 hz0 hz1 hz2 rfl (by omega) _ zi.length _ rfl (World.ownsRow.alloc HTi.out.1 _) ⟨wr.heap.size, 0, none⟩ 1 1 [.int .i64 1] rfl rfl (World.news_of_block (cs := #[.int .i64 1]) (t := 3) (fr := (0, 0)) (heap_alloc_new wr _)) (by simp [Value.oneCell']) (by omega) (by unfold maxLen; omega) (by omega) (by simp; have := HTi.out.2.size; omega) (wr.heap.size + 1) (by simp) ?_; intro gi capi wi hown hg hat hlti; have HS := Lib.hid (GrowRel.step HTi.out hown hg); clear hown hg hat hlti)
          go_roundw
          case rel =>
            refine ⟨k + 1, _, zi ++ [1], hi, by omega, by go_num, rfl, rfl, HS, ?_, by omega, by omega, by simp; omega⟩
            obtain ⟨z1, z2⟩ := HI.out
            refine ⟨?_, by rw [hgt_succ, HE.out]⟩
            rw [HZi.out, z1, z2, HE.out]; rfl
          case measure => simp [intOf]; omega
    · have HK : Hid (k = n) := by unfold Hid; omega
      have htk : decide ((k : Int) < (n : Int)) = false := by simp only [decide_eq_false_iff_not]; omega
      obtain ⟨wo, rfl⟩ : ∃ wo : World, wo = wr := ⟨_, rfl⟩
      go_wp2_with fail
      go_loopw [7, 8] (fun o h wr => ∃ (v : Value) (zi : List Int) (hi : Int), o = v ∧ h = .int .i64 hi ∧ Hid (GrowRel w wr v zi) ∧ Hid (zi = zo ++ List.replicate (h' - hi).toNat 0) ∧ 0 ≤ hi ∧ hi ≤ h' ∧ (zi.length : Int) + hi ≤ c + k) (fun _ h _ => (intOf h).toNat)
      case atStart => exact ⟨_, zo, h', rfl, rfl, HT, by (unfold Hid; simp), by omega, by omega, hsz⟩
      case round =>
        obtain ⟨vi, zi, hi, rfl, rfl, HTi, HZi, hi1, hi2, hszi⟩ := hrel
        by_cases hgt0 : 0 < hi
        · go_wp2_with (at_builtin; refine wpList_append_lies _ rfl (.tmp 39) (.tmp 40) _ rfl w.heap.size 3 i0 _ 1 8 Try.underlying32 hi0 hz0 hz1 hz2 rfl (by omega) _ zi.length _ rfl (World.ownsRow.alloc HTi.out.1 _) ⟨wr.heap.size, 0, none⟩ 1 1 [.int .i64 0] rfl rfl (World.news_of_block (cs := #[.int .i64 0]) (t := 3) (fr := (0, 0)) (heap_alloc_new wr _)) (by simp [Value.oneCell']) (by omega) (by unfold maxLen; omega) (by omega) (by simp; have := HTi.out.2.size; omega) (wr.heap.size + 1) (by simp) ?_; intro gi capi wi hown hg hat hlti; have HS := Lib.hid (GrowRel.step HTi.out hown hg); clear hown hg hat hlti)
          go_roundw
          case rel => exact ⟨_, zi ++ [0], hi - 1, rfl, rfl, HS, by (unfold Hid; rw [HZi.out, rep_succ _ _ (by omega)]), by omega, by omega, by simp; omega⟩
          case measure => simp [intOf]; omega
        · have HE : Hid (hi = 0) := by unfold Hid; omega
          go_wp2_with fail
          go_ret
          refine ⟨_, rfl, ?_, HTi.out.2⟩
          obtain ⟨z1, z2⟩ := HI.out
          have hz : zi = pathL c zs := by rw [HZi.out, z1, z2, HE.out, Int.sub_zero, pathL, HL.out, HK.out]
          rw [← hz]
          exact HTi.out.1

theorem specRowPath_any (b c : Int) (v : Value) (zs : List Int) (B : Nat) (w : World) (h : RdI w B v zs) (hB : B ≤ w.heap.size) :
    Calls Try.prog 25 #[.int .i64 b, .int .i64 c, v] w (RetOwnI w (pathZ b c zs)) := by
  cases hr : rowB b c zs
  · rw [show pathZ b c zs = [] from by rw [pathZ, hr]; rfl]
    have HU := Lib.hid h
    obtain ⟨A, cp, rfl, h1, h2, h3⟩ := h
    have hb0 : Below w.heap.size w (w.alloc (.cells #[] 3)) := (Below.refl _ _).alloc (Nat.le_refl _) _
    have HB0 := Lib.hid hb0
    go_enter Try.func25, Try.ntmps25
    go_wp2_with fail
    refine (l22Row_any _ _ _ zs B _ (HU.out.below (HB0.out.mono hB)) (by simp; omega)).mono ?_
    rintro e w1 ⟨rfl, hb1⟩
    go_wp2_with fail
    go_ret
    have hg := (GrowRel.start w).below hb1
    exact ⟨_, rfl, hg.1, hg.2⟩
  · rw [show pathZ b c zs = pathL c zs from by rw [pathZ, hr]; rfl]
    obtain ⟨_, hbb, _, _⟩ := (rowB_iff _ _ _).1 hr
    obtain ⟨n, rfl⟩ := Int.eq_ofNat_of_zero_le (show 0 ≤ b by omega)
    exact specRowPath_yes n c v zs B w h hB hr
end Go.Proofs.Ytpefpllokhbkiaa
