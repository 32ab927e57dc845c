/- Contracts of BoxMatrix of the program and of the reference. -/
import Derived.Test.YtpefpllokhbkiaaOwnM
import Derived.Test.YtpefpllokhbkiaaChoose
import Derived.Test.YtpefpllokhbkiaaBox
namespace Go.Proofs.Ytpefpllokhbkiaa
open Go.RowKit

theorem World.ownsRow.mono_base {w : World} {lo lo' : Nat} {e : TypeId} {size n : Nat} {v : Value} {xs : List Value} (h : w.ownsRow lo e size v n xs) (hl : lo' ≤ lo) : w.ownsRow lo' e size v n xs := by
  refine ⟨h.1, ?_⟩
  rcases h.2 with h2 | ⟨g, cap, cur, e, hb, r⟩
  · exact .inl h2
  · exact .inr ⟨g, cap, cur, e, by omega, r⟩

def brow (b c : Int) (i : Nat) : Nat → List Int | 0 => [] | k + 1 => brow b c i k ++ [chooseZ (b + c) (b - (i : Int) + (k : Int))]
def bmat (b c : Int) (n : Nat) : Nat → List (List Int) | 0 => [] | i + 1 => bmat b c n i ++ [brow b c i n]
def bmatZ (a b c : Int) : List (List Int) := if boxB a b c then bmat b c a.toNat a.toNat else []
/-- A new slice of new rows comes back. -/
def RetM (w : World) (zss : List (List Int)) (e : Ending) (w' : World) : Prop := ∃ v hi, e = .returned v ∧ OwnM w' w.heap.size hi v zss ∧ hi ≤ w'.heap.size ∧ Below w.heap.size w w'
theorem MRel.after {w w1 wr : World} {hi : Nat} {v : Value} {zss : List (List Int)} (hb : Below w.heap.size w w1) (h : MRel w1 wr hi v zss) : MRel w wr hi v zss := by
  obtain ⟨⟨vs, h1, h2, h3⟩, hb1, hh, hl⟩ := h
  have := hb.size
  exact ⟨⟨vs, World.ownsRow.mono_base h1 hb.size, fun i u hu => (h2 i u hu).mono hb.size, h3⟩, hb.trans (hb1.mono hb.size), hh, by omega⟩
theorem OwnM.none (w : World) (lo : Nat) : OwnM w lo 0 (.slice none 0 0) [] :=
  ⟨[], by simpa using World.ownsRow_nil w lo 32 1, fun i u hu => by simp at hu, fun i j u u' a b _ hu => by simp at hu, fun i u a hu => by simp at hu, fun a ha => by simp [Value.ownBlock] at ha⟩
theorem brow_length (b c : Int) (i k : Nat) : (brow b c i k).length = k := by
  induction k with
  | zero => rfl
  | succ k ih => simp [brow, ih]
theorem bmat_length (b c : Int) (n i : Nat) : (bmat b c n i).length = i := by
  induction i with
  | zero => rfl
  | succ i ih => simp [bmat, ih]

set_option maxHeartbeats 4000000 in
theorem BoxMatrix_yes (n : Nat) (b c : Int) (w : World) (hbox : boxB n b c = true) :
    Calls Try.prog 34 #[.int .i64 n, .int .i64 b, .int .i64 c] w (RetM w (bmat b c n n)) := by
  obtain ⟨i0, hi0, hz0, hz1, hz2⟩ := info_parts infoInt
  obtain ⟨iR, hiR, hr0, hr1, hr2⟩ := info_parts infoRow
  obtain ⟨⟨hn1, hn2⟩, ⟨hb1, hb2⟩, hc1, hc2⟩ := (boxB_iff _ _ _).1 hbox
  have hn3 : n ≤ 3 := by omega
  go_enter Try.func34, Try.ntmps34
  go_wp2_with fail
  refine (BoxOk_any _ _ _ _).mono ?_
  rintro e w1 ⟨rfl, hB1⟩
  rw [hbox]
  go_wp2_with fail
  have HM0 := Lib.hid (MRel.after hB1 (MRel.start w1))
  go_loopw [7, 18] (fun o s wr => ∃ (i hi : Nat) (v : Value) (zss : List (List Int)), i ≤ n ∧ s = .int .i64 i ∧ o = v ∧ Hid (MRel w wr hi v zss) ∧ Hid (zss = bmat b c n i) ∧ zss.length ≤ i) (fun _ s _ => n - (intOf s).toNat)
  case atStart => exact ⟨0, _, _, [], Nat.zero_le _, rfl, rfl, HM0, rfl, Nat.le_refl _⟩
  case round =>
    obtain ⟨i, hi, v, zss, hin, rfl, ho, HM, HZ, hzl⟩ := hrel
    have HO := Lib.hid ho
    clear ho
    by_cases hlt : i < n
    · have hti : decide ((i : Int) < (n : Int)) = true := by simp only [decide_eq_true_eq]; omega
      go_wp2_with fail
      have HT0 := Lib.hid (RowRel.start HM.out)
      go_loopw [9, 23] (fun o s wr => ∃ (k : Nat) (u : Value) (zs : List Int), k ≤ n ∧ s = .int .i64 k ∧ o = u ∧ Hid (RowRel w wr hi v zss u zs) ∧ Hid (zs = brow b c i k) ∧ zs.length ≤ k) (fun _ s _ => n - (intOf s).toNat)
      case atStart => exact ⟨0, _, [], Nat.zero_le _, rfl, rfl, HT0, rfl, Nat.le_refl _⟩
      case round =>
        obtain ⟨k, u, zs, hk, rfl, rfl, HT, HY, hyl⟩ := hrel
        by_cases hlk : k < n
        · have htk : decide ((k : Int) < (n : Int)) = true := by simp only [decide_eq_true_eq]; omega
          go_wp2_with fail
          refine (ChooseOf_any _ _ _).mono ?_
          rintro e w' ⟨rfl, rfl⟩
          go_wp2_with (at_builtin; refine wpList_append_lies _ rfl (.tmp 26) (.tmp 36) _ rfl hi 3 i0 _ 1 8 Try.underlying32 hi0 hz0 hz1 hz2 rfl (by omega) _ zs.length _ rfl (World.ownsRow.alloc HT.out.2 _) ⟨wr.heap.size, 0, none⟩ 1 1 [.int .i64 (chooseZ (b + c) (b - (i : Int) + (k : Int)))] rfl rfl (World.news_of_block (cs := #[.int .i64 (chooseZ (b + c) (b - (i : Int) + (k : Int)))]) (t := 3) (fr := (0, 0)) (heap_alloc_new wr _)) (by simp [Value.oneCell']) (by omega) (by unfold maxLen; omega) (by omega) (by simp; have := HT.out.1.2.2.1; omega) (wr.heap.size + 1) (by simp) ?_; intro gi capi wi hown hg hat hlti; have HS := Lib.hid (RowRel.step HT.out hown hg); clear hown hg hat hlti)
          go_roundw
          case rel => exact ⟨k + 1, _, _, by omega, by go_num, rfl, HS, (by unfold Hid; rw [HY.out]; rfl), by simp; omega⟩
          case measure => simp [intOf]; omega
        · have HK : Hid (zs = brow b c i n) := by unfold Hid; rw [HY.out, show k = n by omega]
          rw [← HO.out] at HT
          obtain ⟨vs, hv1, hv2⟩ := HT.out.1.1
          have HVL : Hid (vs.length = zss.length) := by have := hv1.1; unfold Hid; omega
          have HV1 := Lib.hid hv1
          have HV2 := Lib.hid hv2
          obtain ⟨A', c', rfl, hq1, hq2, _⟩ := HT.out.2.rd
          clear hv1 hv2
          go_wp2_with (at_builtin; refine wpList_append_lies _ rfl (.tmp 39) (.tmp 41) _ rfl w.heap.size 32 iR _ 1 24 Try.underlying27 hiR hr0 hr1 hr2 rfl (by omega) _ zss.length _ rfl (World.ownsRow.alloc HV1.out _) ⟨wr.heap.size, 0, none⟩ 1 1 [.slice A' zs.length c'] rfl rfl (World.news_of_block (cs := #[.slice A' zs.length c']) (t := 32) (fr := (0, 0)) (heap_alloc_new wr _)) (by simp [Value.oneCell']) (by omega) (by unfold maxLen; omega) (by omega) (by simp; have := HT.out.1.2.1.size; omega) (wr.heap.size + 1) (by simp) ?_; intro gi capi wi hown hg hat hlti; have HS := Lib.hid (RowRel.push HT.out HV2.out HVL.out hown hg hat hlti); have HSZ := Lib.hid (Nat.le_refl wi.heap.size); clear hown hg hat hlti)
          go_roundw
          case rel => exact ⟨i + 1, _, _, _, by omega, by go_num, rfl, HS, (by unfold Hid; rw [HK.out, HZ.out]; rfl), by simp; omega⟩
          case measure => simp [intOf]; omega
    · have HK : Hid (zss = bmat b c n n) := by unfold Hid; rw [HZ.out, show i = n by omega]
      rw [← HO.out] at HM
      go_wp2_with fail
      go_ret
      exact ⟨_, hi, rfl, by rw [← HK.out]; exact HM.out.1, HM.out.2.2.1, HM.out.2.1⟩

set_option maxHeartbeats 4000000 in
theorem specBoxMatrix_yes (n : Nat) (b c : Int) (w : World) (hbox : boxB n b c = true) :
    Calls Try.prog 33 #[.int .i64 n, .int .i64 b, .int .i64 c] w (RetM w (bmat b c n n)) := by
  obtain ⟨i0, hi0, hz0, hz1, hz2⟩ := info_parts infoInt
  obtain ⟨iR, hiR, hr0, hr1, hr2⟩ := info_parts infoRow
  obtain ⟨⟨hn1, hn2⟩, ⟨hb1, hb2⟩, hc1, hc2⟩ := (boxB_iff _ _ _).1 hbox
  have hn3 : n ≤ 3 := by omega
  go_enter Try.func33, Try.ntmps33
  go_wp2_with fail
  have HM0 := Lib.hid (MRel.start w)
  go_loopw [7, 8] (fun o s wr => ∃ (i hi : Nat) (v : Value) (zss : List (List Int)), i ≤ n ∧ s = .int .i64 i ∧ o = v ∧ Hid (MRel w wr hi v zss) ∧ Hid (zss = bmat b c n i) ∧ zss.length ≤ i) (fun _ s _ => n - (intOf s).toNat)
  case atStart => exact ⟨0, _, _, [], Nat.zero_le _, rfl, rfl, HM0, rfl, Nat.le_refl _⟩
  case round =>
    obtain ⟨i, hi, v, zss, hin, rfl, ho, HM, HZ, hzl⟩ := hrel
    have HO := Lib.hid ho
    clear ho
    by_cases hlt : i < n
    · have hti : decide ((i : Int) < (n : Int)) = true := by simp only [decide_eq_true_eq]; omega
      go_wp2_with fail
      refine (specBoxOk_any _ _ _ _).mono ?_
      rintro e w' ⟨rfl, rfl⟩
      rw [hbox]
      go_wp2_with fail
      have HT0 := Lib.hid (RowRel.start HM.out)
      go_loopw [9, 10] (fun o s wr => ∃ (k : Nat) (u : Value) (zs : List Int), k ≤ n ∧ s = .int .i64 k ∧ o = u ∧ Hid (RowRel w wr hi v zss u zs) ∧ Hid (zs = brow b c i k) ∧ zs.length ≤ k) (fun _ s _ => n - (intOf s).toNat)
      case atStart => exact ⟨0, _, [], Nat.zero_le _, rfl, rfl, HT0, rfl, Nat.le_refl _⟩
      case round =>
        obtain ⟨k, u, zs, hk, rfl, rfl, HT, HY, hyl⟩ := hrel
        by_cases hlk : k < n
        · have htk : decide ((k : Int) < (n : Int)) = true := by simp only [decide_eq_true_eq]; omega
          go_wp2_with fail
          refine (specChooseOf_any _ _ _).mono ?_
          rintro e w' ⟨rfl, rfl⟩
          go_wp2_with (at_builtin; refine wpList_append_lies _ rfl (.tmp 29) (.tmp 39) _ rfl hi 3 i0 _ 1 8 Try.underlying32 hi0 hz0 hz1 hz2 rfl (by omega) _ zs.length _ rfl (World.ownsRow.alloc HT.out.2 _) ⟨wr.heap.size, 0, none⟩ 1 1 [.int .i64 (chooseZ (b + c) (b - (i : Int) + (k : Int)))] rfl rfl (World.news_of_block (cs := #[.int .i64 (chooseZ (b + c) (b - (i : Int) + (k : Int)))]) (t := 3) (fr := (0, 0)) (heap_alloc_new wr _)) (by simp [Value.oneCell']) (by omega) (by unfold maxLen; omega) (by omega) (by simp; have := HT.out.1.2.2.1; omega) (wr.heap.size + 1) (by simp) ?_; intro gi capi wi hown hg hat hlti; have HS := Lib.hid (RowRel.step HT.out hown hg); clear hown hg hat hlti)
          go_roundw
          case rel => exact ⟨k + 1, _, _, by omega, by go_num, rfl, HS, (by unfold Hid; rw [HY.out]; rfl), by simp; omega⟩
          case measure => simp [intOf]; omega
        · have HK : Hid (zs = brow b c i n) := by unfold Hid; rw [HY.out, show k = n by omega]
          rw [← HO.out] at HT
          obtain ⟨vs, hv1, hv2⟩ := HT.out.1.1
          have HVL : Hid (vs.length = zss.length) := by have := hv1.1; unfold Hid; omega
          have HV1 := Lib.hid hv1
          have HV2 := Lib.hid hv2
          obtain ⟨A', c', rfl, hq1, hq2, _⟩ := HT.out.2.rd
          clear hv1 hv2
          go_wp2_with (at_builtin; refine wpList_append_lies _ rfl (.tmp 41) (.tmp 43) _ rfl w.heap.size 32 iR _ 1 24 Try.underlying27 hiR hr0 hr1 hr2 rfl (by omega) _ zss.length _ rfl (World.ownsRow.alloc HV1.out _) ⟨wr.heap.size, 0, none⟩ 1 1 [.slice A' zs.length c'] rfl rfl (World.news_of_block (cs := #[.slice A' zs.length c']) (t := 32) (fr := (0, 0)) (heap_alloc_new wr _)) (by simp [Value.oneCell']) (by omega) (by unfold maxLen; omega) (by omega) (by simp; have := HT.out.1.2.1.size; omega) (wr.heap.size + 1) (by simp) ?_; intro gi capi wi hown hg hat hlti; have HS := Lib.hid (RowRel.push HT.out HV2.out HVL.out hown hg hat hlti); have HSZ := Lib.hid (Nat.le_refl wi.heap.size); clear hown hg hat hlti)
          go_roundw
          case rel => exact ⟨i + 1, _, _, _, by omega, by go_num, rfl, HS, (by unfold Hid; rw [HK.out, HZ.out]; rfl), by simp; omega⟩
          case measure => simp [intOf]; omega
    · have HK : Hid (zss = bmat b c n n) := by unfold Hid; rw [HZ.out, show i = n by omega]
      rw [← HO.out] at HM
      go_wp2_with fail
      go_ret
      exact ⟨_, hi, rfl, by rw [← HK.out]; exact HM.out.1, HM.out.2.2.1, HM.out.2.1⟩

theorem BoxMatrix_any (a b c : Int) (w : World) :
    Calls Try.prog 34 #[.int .i64 a, .int .i64 b, .int .i64 c] w (RetM w (bmatZ a b c)) := by
  cases hbox : boxB a b c
  · have e0 : bmatZ a b c = [] := by simp [bmatZ, hbox]
    rw [e0]; clear e0
    go_enter Try.func34, Try.ntmps34
    go_wp2_with fail
    refine (BoxOk_any _ _ _ _).mono ?_
    rintro e w1 ⟨rfl, hB1⟩
    rw [hbox]
    go_wp2_with fail
    go_ret
    exact ⟨_, 0, rfl, OwnM.none _ _, Nat.zero_le _, hB1⟩
  · obtain ⟨n, rfl⟩ := Int.eq_ofNat_of_zero_le (show 0 ≤ a by have := ((boxB_iff _ _ _).1 hbox).1; omega)
    have e0 : bmatZ n b c = bmat b c n n := by simp [bmatZ, hbox]
    rw [e0]
    exact BoxMatrix_yes n b c w hbox

theorem specBoxMatrix_any (a b c : Int) (w : World) :
    Calls Try.prog 33 #[.int .i64 a, .int .i64 b, .int .i64 c] w (RetM w (bmatZ a b c)) := by
  cases hbox : boxB a b c
  · have e0 : bmatZ a b c = [] := by simp [bmatZ, hbox]
    rw [e0]; clear e0
    have HM0 := Lib.hid (MRel.start w)
    by_cases ha : 0 < a
    all_goals
      go_enter Try.func33, Try.ntmps33
      go_wp2_with fail
      go_loopw [7, 8] (fun o s wr => o = .slice (some ⟨w.heap.size, 0, none⟩) 0 0 ∧ s = .int .i64 0 ∧ wr = w.alloc (.cells #[] 32)) (fun _ _ _ => 0)
      case atStart => exact ⟨rfl, rfl, rfl⟩
      case round =>
        obtain ⟨rfl, rfl, rfl⟩ := hrel
        go_wp2_with (go_at_call 61; refine (specBoxOk_any _ _ _ _).mono ?_; rintro e w' ⟨rfl, rfl⟩; rw [hbox])
        go_ret
        exact ⟨_, _, rfl, HM0.out.1, HM0.out.2.2.1, HM0.out.2.1⟩
  · obtain ⟨n, rfl⟩ := Int.eq_ofNat_of_zero_le (show 0 ≤ a by have := ((boxB_iff _ _ _).1 hbox).1; omega)
    have e0 : bmatZ n b c = bmat b c n n := by simp [bmatZ, hbox]
    rw [e0]
    exact specBoxMatrix_yes n b c w hbox
end Go.Proofs.Ytpefpllokhbkiaa
