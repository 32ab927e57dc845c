/- Contracts of BoxMatrix of the program and of the reference. -/
import Derived.Test.YtpockbbfbnaioaaRetM
import Derived.Test.YtpockbbfbnaioaaChoose
import Derived.Test.YtpockbbfbnaioaaBox
namespace Go.Proofs.Ytpockbbfbnaioaa
open Go.RowKit

def brow (b c : Int) (i : Nat) : Nat → List Int | 0 => [] | k + 1 => brow b c i k ++ [chooseZ (b + c) (b - (i : Int) + (k : Int))]
def bmat (b c : Int) (n : Nat) : Nat → List (List Int) | 0 => [] | i + 1 => bmat b c n i ++ [brow b c i n]
def bmatZ (a b c : Int) : List (List Int) := if boxB a b c then bmat b c a.toNat a.toNat else []
theorem brow_length (b c : Int) (i k : Nat) : (brow b c i k).length = k := by
  induction k with
  | zero => rfl
  | succ k ih => simp [brow, ih]
theorem bmat_length (b c : Int) (n i : Nat) : (bmat b c n i).length = i := by
  induction i with
  | zero => rfl
  | succ i ih => simp [bmat, ih]

set_option maxHeartbeats 4000000 in
theorem BoxMatrix_yes (n : Nat) (b c : Int) (w : World) (hbox : boxB n b c = true) :
    Calls Try.prog 62 #[.int .i64 n, .int .i64 b, .int .i64 c] w (RetM w (bmat b c n n)) := by
  obtain ⟨i0, hi0, hz0, hz1, hz2⟩ := info_parts infoInt
  obtain ⟨iR, hiR, hr0, hr1, hr2⟩ := info_parts infoRow
  obtain ⟨⟨hn1, hn2⟩, ⟨hb1, hb2⟩, hc1, hc2⟩ := (boxB_iff _ _ _).1 hbox
  have hn3 : n ≤ 3 := by omega
  go_enter Try.func62, Try.ntmps62
  go_wp2_with fail
  refine (BoxOk_any _ _ _ _).mono ?_
  rintro e w1 ⟨rfl, hB1⟩
  rw [hbox]
  go_wp2_with fail
  have HM0 := Lib.hid (MRel.after hB1 (MRel.start w1))
  go_loopw [7, 18] (fun o s wr => ∃ (i hi : Nat) (v : Value) (zss : List (List Int)), i ≤ n ∧ s = .int .i64 i ∧ o = v ∧ Hid (MRel w wr hi v zss) ∧ Hid (zss = bmat b c n i) ∧ zss.length ≤ i) (fun _ s _ => n - (intOf s).toNat)
  case atStart => exact ⟨0, _, _, [], Nat.zero_le _, rfl, rfl, HM0, rfl, Nat.le_refl _⟩
  case round =>
    obtain ⟨i, hi, v, zss, hin, rfl, ho, HM, HZ, hzl⟩ := hrel
    have HO := Lib.hid ho
    clear ho
    by_cases hlt : i < n
    · have hti : decide ((i : Int) < (n : Int)) = true := by simp only [decide_eq_true_eq]; omega
      go_wp2_with fail
      have HT0 := Lib.hid (RowRel.start HM.out)
      go_loopw [9, 23] (fun o s wr => ∃ (k : Nat) (u : Value) (zs : List Int), k ≤ n ∧ s = .int .i64 k ∧ o = u ∧ Hid (RowRel w wr hi v zss u zs) ∧ Hid (zs = brow b c i k) ∧ zs.length ≤ k) (fun _ s _ => n - (intOf s).toNat)
      case atStart => exact ⟨0, _, [], Nat.zero_le _, rfl, rfl, HT0, rfl, Nat.le_refl _⟩
      case round =>
        obtain ⟨k, u, zs, hk, rfl, rfl, HT, HY, hyl⟩ := hrel
        by_cases hlk : k < n
        · have htk : decide ((k : Int) < (n : Int)) = true := by simp only [decide_eq_true_eq]; omega
          go_wp2_with fail
          refine (ChooseOf_any _ _ _).mono ?_
          rintro e w' ⟨rfl, rfl⟩
          go_wp2_with (at_builtin; refine wpList_append_lies _ rfl (.tmp 26) (.tmp 36) _ rfl hi 3 i0 _ 1 8 Try.underlying64 hi0 hz0 hz1 hz2 rfl (by omega) _ zs.length _ rfl (World.ownsRow.alloc HT.out.2 _) ⟨wr.heap.size, 0, none⟩ 1 1 [.int .i64 (chooseZ (b + c) (b - (i : Int) + (k : Int)))] rfl rfl (World.news_of_block (cs := #[.int .i64 (chooseZ (b + c) (b - (i : Int) + (k : Int)))]) (t := 3) (fr := (0, 0)) (heap_alloc_new wr _)) (by simp [Value.oneCell']) (by omega) (by unfold maxLen; omega) (by omega) (by simp; have := HT.out.1.2.2.1; omega) (wr.heap.size + 1) (by simp) ?_; intro gi capi wi hown hg hat hlti; have HS := Lib.hid (RowRel.step HT.out hown hg); clear hown hg hat hlti)
          go_roundw
          case rel => exact ⟨k + 1, _, _, by omega, by go_num, rfl, HS, (by unfold Hid; rw [HY.out]; rfl), by simp; omega⟩
          case measure => simp [intOf]; omega
        · have HK : Hid (zs = brow b c i n) := by unfold Hid; rw [HY.out, show k = n by omega]
          rw [← HO.out] at HT
          obtain ⟨vs, hv1, hv2⟩ := HT.out.1.1
          have HVL : Hid (vs.length = zss.length) := by have := hv1.1; unfold Hid; omega
          have HV1 := Lib.hid hv1
          have HV2 := Lib.hid hv2
          obtain ⟨A', c', rfl, hq1, hq2, _⟩ := HT.out.2.rd
          clear hv1 hv2
          go_wp2_with (at_builtin; refine wpList_append_lies _ rfl (.tmp 39) (.tmp 41) _ rfl w.heap.size 64 iR _ 1 24 Try.underlying22 hiR hr0 hr1 hr2 rfl (by omega) _ zss.length _ rfl (World.ownsRow.alloc HV1.out _) ⟨wr.heap.size, 0, none⟩ 1 1 [.slice A' zs.length c'] rfl rfl (World.news_of_block (cs := #[.slice A' zs.length c']) (t := 64) (fr := (0, 0)) (heap_alloc_new wr _)) (by simp [Value.oneCell']) (by omega) (by unfold maxLen; omega) (by omega) (by simp; have := HT.out.1.2.1.size; omega) (wr.heap.size + 1) (by simp) ?_; intro gi capi wi hown hg hat hlti; have HS := Lib.hid (RowRel.push HT.out HV2.out HVL.out hown hg hat hlti); have HSZ := Lib.hid (Nat.le_refl wi.heap.size); clear hown hg hat hlti)
          go_roundw
          case rel => exact ⟨i + 1, _, _, _, by omega, by go_num, rfl, HS, (by unfold Hid; rw [HK.out, HZ.out]; rfl), by simp; omega⟩
          case measure => simp [intOf]; omega
    · have HK : Hid (zss = bmat b c n n) := by unfold Hid; rw [HZ.out, show i = n by omega]
      rw [← HO.out] at HM
      go_wp2_with fail
      go_ret
      exact ⟨_, hi, rfl, by rw [← HK.out]; exact HM.out.1, HM.out.2.2.1, HM.out.2.1⟩


theorem BoxMatrix_any (a b c : Int) (w : World) :
    Calls Try.prog 62 #[.int .i64 a, .int .i64 b, .int .i64 c] w (RetM w (bmatZ a b c)) := by
  cases hbox : boxB a b c
  · have e0 : bmatZ a b c = [] := by simp [bmatZ, hbox]
    rw [e0]; clear e0
    go_enter Try.func62, Try.ntmps62
    go_wp2_with fail
    refine (BoxOk_any _ _ _ _).mono ?_
    rintro e w1 ⟨rfl, hB1⟩
    rw [hbox]
    go_wp2_with fail
    go_ret
    exact ⟨_, 0, rfl, OwnM.none _ _, Nat.zero_le _, hB1⟩
  · obtain ⟨n, rfl⟩ := Int.eq_ofNat_of_zero_le (show 0 ≤ a by have := ((boxB_iff _ _ _).1 hbox).1; omega)
    have e0 : bmatZ n b c = bmat b c n n := by simp [bmatZ, hbox]
    rw [e0]
    exact BoxMatrix_yes n b c w hbox

end Go.Proofs.Ytpockbbfbnaioaa
