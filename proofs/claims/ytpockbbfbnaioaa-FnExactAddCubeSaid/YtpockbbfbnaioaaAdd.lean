/- Contracts of AddCube of the program and of the reference. -/
import Derived.Test.YtpockbbfbnaioaaFull
import Derived.Test.YtpockbbfbnaioaaSrcRow
namespace Go.Proofs.Ytpockbbfbnaioaa
open Go.RowKit

def addM (zss : List (List Int)) (i k : Nat) : List (List Int) := zss.set i ((rw' zss i).set k (el (rw' zss i) k + 1))
def addOut (t : Bool) (z : List (List Int)) : List (List Int) := if t then z else []
def addOk (a b c : Int) (zss : List (List Int)) (r q : Int) : Bool := heapB a b c zss && inB r 0 (a - 1) && inB q 0 (b - 1) && heapB a b c (addM zss r.toNat q.toNat)
def addZ (a b c : Int) (zss : List (List Int)) (r q : Int) : List (List Int) := if addOk a b c zss r q then addM zss r.toNat q.toNat else []


set_option maxHeartbeats 4000000 in
theorem AddCube_no (a b c : Int) (u : Value) (zss : List (List Int)) (r q : Int) (B : Nat) (w : World) (h : RdII w B u zss) (hB : B ≤ w.heap.size) (hn : (heapB a b c zss && inB r 0 (a - 1) && inB q 0 (b - 1)) = false) (ha : 0 ≤ a ∧ a ≤ 3 ∨ heapB a b c zss = false) (hb : 0 ≤ b ∧ b ≤ 3 ∨ heapB a b c zss = false) :
    Calls Try.prog 18 #[.int .i64 a, .int .i64 b, .int .i64 c, u, .int .i64 r, .int .i64 q] w (RetMB w [] false) := by
  have HU := Lib.hid h
  obtain ⟨A, cc, rfl, _⟩ := h.open_
  clear h
  cases hh : heapB a b c zss
  · clear ha hb hn
    go_enter Try.func18, Try.ntmps18
    go_wp2_with fail
    refine (IsHeap_any _ _ _ _ zss _ _ HU.out hB).mono ?_
    rintro e w1 ⟨rfl, hb1⟩
    rw [hh]
    go_wp2_with fail
    go_ret2
    exact ⟨_, 0, rfl, OwnM.none _ _, Nat.zero_le _, hb1⟩
  · rw [hh] at hn ha hb
    have ha : 0 ≤ a ∧ a ≤ 3 := by simpa using ha
    have hb : 0 ≤ b ∧ b ≤ 3 := by simpa using hb
    obtain ⟨a1, a2⟩ := ha
    obtain ⟨b1, b2⟩ := hb
    cases h1 : inB r 0 (a - 1)
    · clear hn
      go_enter Try.func18, Try.ntmps18
      go_wp2_with fail
      refine (IsHeap_any _ _ _ _ zss _ _ HU.out hB).mono ?_
      rintro e w1 ⟨rfl, hb1⟩
      rw [hh]
      go_wp2_with fail
      refine (within_any _ _ _ _).mono ?_
      rintro e w2 ⟨rfl, rfl⟩
      rw [h1]
      go_wp2_with fail
      go_ret2
      exact ⟨_, 0, rfl, OwnM.none _ _, Nat.zero_le _, hb1⟩
    · have h2 : inB q 0 (b - 1) = false := by rw [h1] at hn; simpa using hn
      clear hn
      go_enter Try.func18, Try.ntmps18
      go_wp2_with fail
      refine (IsHeap_any _ _ _ _ zss _ _ HU.out hB).mono ?_
      rintro e w1 ⟨rfl, hb1⟩
      rw [hh]
      go_wp2_with fail
      refine (within_any _ _ _ _).mono ?_
      rintro e w2 ⟨rfl, rfl⟩
      rw [h1]
      go_wp2_with fail
      refine (within_any _ _ _ _).mono ?_
      rintro e w2 ⟨rfl, rfl⟩
      rw [h2]
      go_wp2_with fail
      go_ret2
      exact ⟨_, 0, rfl, OwnM.none _ _, Nat.zero_le _, hb1⟩

set_option maxHeartbeats 4000000 in
theorem specAddCube_no (a b c : Int) (u : Value) (zss : List (List Int)) (r q : Int) (B : Nat) (w : World) (h : RdII w B u zss) (hB : B ≤ w.heap.size) (hn : (heapB a b c zss && inB r 0 (a - 1) && inB q 0 (b - 1)) = false) (ha : 0 ≤ a ∧ a ≤ 3 ∨ heapB a b c zss = false) (hb : 0 ≤ b ∧ b ≤ 3 ∨ heapB a b c zss = false) :
    Calls Try.prog 16 #[.int .i64 a, .int .i64 b, .int .i64 c, u, .int .i64 r, .int .i64 q] w (RetMB w [] false) := by
  have HU := Lib.hid h
  obtain ⟨A, cc, rfl, _⟩ := h.open_
  clear h
  cases hh : heapB a b c zss
  · clear ha hb hn
    have HM0 := Lib.hid (MRel.start w)
    go_enter Try.func16, Try.ntmps16
    go_wp2_with fail
    refine (specIsHeap_any _ _ _ _ zss _ _ (HU.out.below (HM0.out.2.1.mono hB)) (Nat.le_trans hB HM0.out.2.1.size)).mono ?_
    rintro e w1 ⟨rfl, hb1⟩
    rw [hh]
    go_wp2_with fail
    go_ret2
    exact ⟨_, _, rfl, (HM0.out.below hb1).1, (HM0.out.below hb1).2.2.1, (HM0.out.below hb1).2.1⟩
  · rw [hh] at hn ha hb
    have ha : 0 ≤ a ∧ a ≤ 3 := by simpa using ha
    have hb : 0 ≤ b ∧ b ≤ 3 := by simpa using hb
    obtain ⟨a1, a2⟩ := ha
    obtain ⟨b1, b2⟩ := hb
    cases h1 : inB r 0 (a - 1)
    · clear hn
      have HM0 := Lib.hid (MRel.start w)
      go_enter Try.func16, Try.ntmps16
      go_wp2_with fail
      refine (specIsHeap_any _ _ _ _ zss _ _ (HU.out.below (HM0.out.2.1.mono hB)) (Nat.le_trans hB HM0.out.2.1.size)).mono ?_
      rintro e w1 ⟨rfl, hb1⟩
      rw [hh]
      go_wp2_with fail
      refine (l01In_any _ _ _ _).mono ?_
      rintro e w2 ⟨rfl, rfl⟩
      rw [h1]
      go_wp2_with fail
      go_ret2
      exact ⟨_, _, rfl, (HM0.out.below hb1).1, (HM0.out.below hb1).2.2.1, (HM0.out.below hb1).2.1⟩
    · have h2 : inB q 0 (b - 1) = false := by rw [h1] at hn; simpa using hn
      clear hn
      have HM0 := Lib.hid (MRel.start w)
      go_enter Try.func16, Try.ntmps16
      go_wp2_with fail
      refine (specIsHeap_any _ _ _ _ zss _ _ (HU.out.below (HM0.out.2.1.mono hB)) (Nat.le_trans hB HM0.out.2.1.size)).mono ?_
      rintro e w1 ⟨rfl, hb1⟩
      rw [hh]
      go_wp2_with fail
      refine (l01In_any _ _ _ _).mono ?_
      rintro e w2 ⟨rfl, rfl⟩
      rw [h1]
      go_wp2_with fail
      refine (l01In_any _ _ _ _).mono ?_
      rintro e w2 ⟨rfl, rfl⟩
      rw [h2]
      go_wp2_with fail
      go_ret2
      exact ⟨_, _, rfl, (HM0.out.below hb1).1, (HM0.out.below hb1).2.2.1, (HM0.out.below hb1).2.1⟩

set_option maxRecDepth 100000 in
set_option maxHeartbeats 8000000 in
theorem AddCube_yes (n m : Nat) (c : Int) (u : Value) (zss : List (List Int)) (i k : Nat) (B : Nat) (w : World) (h : RdII w B u zss) (hB : B ≤ w.heap.size) (hh : heapB n m c zss = true) (hi : i < n) (hk : k < m) (t : Bool) (hT : heapB n m c (addM zss i k) = t) :
    Calls Try.prog 18 #[.int .i64 n, .int .i64 m, .int .i64 c, u, .int .i64 i, .int .i64 k] w (RetMB w (addOut t (addM zss i k)) t) := by
  obtain ⟨⟨hn1, hn2⟩, ⟨hm1, hm2⟩, ⟨hc1, hc2⟩, hsh, hel⟩ := heap_facts hh
  have h1 : inB i 0 ((n : Int) - 1) = true := inB_true (by omega) (by omega)
  have h2 : inB k 0 ((m : Int) - 1) = true := inB_true (by omega) (by omega)
  have HU := Lib.hid h
  obtain ⟨e1, e2⟩ := hel i k hi hk
  obtain ⟨x, HX⟩ : ∃ x, Hid (x = el (rw' zss i) k) := ⟨_, rfl⟩
  rw [← HX.out] at e1 e2
  have HSH := Lib.hid hsh; clear hsh hel
  have i0 : (0 : Int) ≤ (i : Int) := by omega
  have i1 : (i : Int) < (n : Int) := by omega
  have k0 : (0 : Int) ≤ (k : Int) := by omega
  have k1 : (k : Int) < (m : Int) := by omega
  have HAM : Hid (zss.set i ((rw' zss i).set k (x + 1)) = addM zss i k) := by unfold Hid addM; rw [HX.out]
  generalize hz : addM zss i k = Z at *
  have HZ := Lib.hid hz; clear hz
  have HTT := Lib.hid hT; clear hT
  obtain ⟨A, cc, rfl, _⟩ := h.open_
  clear h
  go_enter Try.func18, Try.ntmps18
  go_wp2_with fail
  refine (IsHeap_any _ _ _ _ zss _ _ HU.out hB).mono ?_
  rintro e w1 ⟨rfl, hb1⟩
  rw [hh]
  have hs1 := hb1.size
  go_wp2_with fail
  refine (within_any _ _ _ _).mono ?_
  rintro e w2 ⟨rfl, rfl⟩
  rw [h1]
  go_wp2_with fail
  refine (within_any _ _ _ _).mono ?_
  rintro e w2 ⟨rfl, rfl⟩
  rw [h2]
  go_wp2_with fail
  refine (copyRows_any _ zss _ _ (HU.out.below (hb1.mono hB)) (Nat.le_trans hB hs1) (by rw [HSH.out.1]; omega) (fun i hi => by rw [HSH.out.2 i (by rw [← HSH.out.1]; exact hi)]; omega)).mono ?_
  rintro e w2 ⟨v2, hi2, rfl, ho2, hx2, hb2⟩
  obtain ⟨g, cap, rfl, q1, q2, har⟩ := (RetM.mrel ho2 hx2 hb2).rect HSH.out (by omega)
  obtain ⟨gi, ci, r1, r2, r3, r4, r5, HS⟩ := har.at hi hk
  rw [← HX.out] at r4
  have hst := HS.out (x + 1)
  rw [HAM.out] at hst
  have HA := Lib.hid hst
  clear hst HS ho2 hx2 hb2 har
  go_upto_region 5 with (fail)
  obtain ⟨w3, HW3⟩ : ∃ y, Hid (y = w2.setCell ⟨gi, k, none⟩ (.int .i64 (x + 1))) := ⟨_, rfl⟩
  have hww := HW3.out
  rw [← hww]
  rw [← hww] at HA
  have HA2 := HA
  clear hww r3 r4 r5
  have hr := HA2.out.1.rd
  go_wp2_with fail
  refine (IsHeap_any _ _ _ _ Z _ _ hr (Nat.le_refl _)).mono ?_
  rintro e w5 ⟨rfl, hb5⟩
  rw [HTT.out]
  have HA3 := Lib.hid (HA2.out.below hb5)
  cases t
  · go_wp2_with fail
    go_ret2
    exact ⟨_, 0, rfl, OwnM.none _ _, Nat.zero_le _, hb1.trans (HA3.out.2.1.mono hs1)⟩
  · have HR := Lib.hid (MRel.after hb1 ⟨HA3.out.1, HA3.out.2.1, Nat.le_refl _, HA3.out.2.1.size⟩)
    go_wp2_with fail
    go_ret2
    exact ⟨_, _, rfl, HR.out.1, Nat.le_refl _, HR.out.2.1⟩

set_option maxRecDepth 100000 in
set_option maxHeartbeats 8000000 in
theorem specAddCube_yes (n m : Nat) (c : Int) (u : Value) (zss : List (List Int)) (i k : Nat) (B : Nat) (w : World) (h : RdII w B u zss) (hB : B ≤ w.heap.size) (hh : heapB n m c zss = true) (hi : i < n) (hk : k < m) (t : Bool) (hT : heapB n m c (addM zss i k) = t) :
    Calls Try.prog 16 #[.int .i64 n, .int .i64 m, .int .i64 c, u, .int .i64 i, .int .i64 k] w (RetMB w (addOut t (addM zss i k)) t) := by
  obtain ⟨⟨hn1, hn2⟩, ⟨hm1, hm2⟩, ⟨hc1, hc2⟩, hsh, hel⟩ := heap_facts hh
  have h1 : inB i 0 ((n : Int) - 1) = true := inB_true (by omega) (by omega)
  have h2 : inB k 0 ((m : Int) - 1) = true := inB_true (by omega) (by omega)
  have HU := Lib.hid h
  obtain ⟨e1, e2⟩ := hel i k hi hk
  obtain ⟨x, HX⟩ : ∃ x, Hid (x = el (rw' zss i) k) := ⟨_, rfl⟩
  rw [← HX.out] at e1 e2
  have HSH := Lib.hid hsh; clear hsh hel
  have i0 : (0 : Int) ≤ (i : Int) := by omega
  have i1 : (i : Int) < (n : Int) := by omega
  have k0 : (0 : Int) ≤ (k : Int) := by omega
  have k1 : (k : Int) < (m : Int) := by omega
  have HAM : Hid (zss.set i ((rw' zss i).set k (x + 1)) = addM zss i k) := by unfold Hid addM; rw [HX.out]
  generalize hz : addM zss i k = Z at *
  have HZ := Lib.hid hz; clear hz
  have HTT := Lib.hid hT; clear hT
  obtain ⟨A, cc, rfl, k1', k2', H3⟩ := h.open_
  have H3 := Lib.hid H3
  unfold maxLen at k2'
  clear h
  have hzl0 : zss.length = n := HSH.out.1
  rw [hzl0] at k1' HU ⊢
  have HZL := Lib.hid hzl0; clear hzl0
  have HM0 := Lib.hid (MRel.start w)
  go_enter Try.func16, Try.ntmps16
  go_wp2_with fail
  refine (specIsHeap_any _ _ _ _ zss _ _ (HU.out.below (HM0.out.2.1.mono hB)) (Nat.le_trans hB HM0.out.2.1.size)).mono ?_
  rintro e w1 ⟨rfl, hb1⟩
  rw [hh]
  have HM1 := Lib.hid (HM0.out.below hb1)
  clear HM0 hb1
  go_wp2_with fail
  refine (l01In_any _ _ _ _).mono ?_
  rintro e w2 ⟨rfl, rfl⟩
  rw [h1]
  go_wp2_with fail
  refine (l01In_any _ _ _ _).mono ?_
  rintro e w2 ⟨rfl, rfl⟩
  rw [h2]
  go_wp2_with fail
  go_loopw [14, 15] (fun o s wr => ∃ (j hi : Nat) (v : Value) (Y : List (List Int)), j ≤ n ∧ s = .int .i64 j ∧ v = o ∧ Hid (MRel w wr hi v Y) ∧ Hid (Y = zss.take j) ∧ Y.length ≤ j) (fun _ s _ => n - (intOf s).toNat)
  case atStart => exact ⟨0, _, _, [], Nat.zero_le _, rfl, rfl, HM1, (by simp [Hid]), Nat.le_refl _⟩
  case round =>
    obtain ⟨j, hj, v, Y, hjn, rfl, rfl, HM, HY, hyl⟩ := hrel
    by_cases hlt : j < n
    · have ht : decide ((j : Int) < (n : Int)) = true := by simp only [decide_eq_true_eq]; omega
      obtain ⟨ad, ur, rfl, hbl, hc, A1, c1, rfl, q1, q2, q3⟩ := H3.out j (by rw [HZL.out]; exact hlt)
      have hb := HM.out.2.1
      have hcw := (hb.cell (p := ad.add j) (by rw [addBlock]; omega)).trans hc
      have hca : (wr.alloc (.cells #[] 3)).cell? (ad.add j) = some (.slice A1 (rw' zss j).length c1) := (((Below.refl wr.heap.size wr).alloc (Nat.le_refl _) (.cells #[] 3)).cell (p := ad.add j) (by rw [addBlock]; have := hb.size; omega)).trans hcw
      have hal : Below w.heap.size w (wr.alloc (.cells #[] 3)) := hb.alloc hb.size _
      have HQ := Lib.hid (q3.below (hal.mono hB))
      have HACC : Hid (Acc elInt w hj (wr.alloc (.cells #[] 3)) (.slice (some ⟨wr.heap.size, 0, none⟩) 0 0) []) := Acc.startAt hb HM.out.2.2.2 HM.out.2.2.1
      have hrl : (rw' zss j).length ≤ 3 := by rw [HSH.out.2 j hlt]; omega
      have HX2 := Lib.hid (take_row zss j (by rw [HZL.out]; exact hlt))
      have HFL := Lib.hid (flat_int (rw' zss j))
      have j0 : (0 : Int) ≤ (j : Int) := by omega
      have j1 : (j : Int) < (n : Int) := by omega
      clear hc q3 hb hal hcw
      generalize rw' zss j = zs at *
      unfold maxLen at q2
      go_wp2_with (first
        | (at_builtin; refine wpList_pushSrc okInt rfl rfl _ _ rfl HACC.out rfl zs B A1 zs.length c1 (by rw [HFL.out]; exact HQ.out) rfl rfl (by simp; omega) ?_; intro u1 w1 HA1 HG1; have HRR := Lib.hid (RowRel.ofSrc HM.out HA1.out HG1.out.1); clear HA1 HG1; obtain ⟨A4, c4, rfl, _, _, _⟩ := HRR.out.2.rd)
        | (at_builtin; refine wpList_pushRow rfl _ _ rfl HRR.out rfl _ rfl (by simp) (by omega) ?_; intro u2 w2 HM2 HB2))
      go_roundw
      case rel => exact ⟨j + 1, _, _, _, by omega, by go_num, rfl, HM2, (by unfold Hid; rw [HX2.out, ← HY.out]), by simp; omega⟩
      case measure => simp [intOf]; omega
    · have HZ2 : Hid (Y = zss) := by unfold Hid; rw [HY.out, List.take_of_length_le (by rw [HZL.out]; omega)]
      rw [HZ2.out] at HM
      obtain ⟨g, cap, rfl, q1, q2, har⟩ := HM.out.rect HSH.out (by omega)
      obtain ⟨gi, ci, r1, r2, r3, r4, r5, HS⟩ := har.at hi hk
      rw [← HX.out] at r4
      have hst := (HS.out (x + 1)).below ((Below.refl _ _).drew)
      rw [HAM.out] at hst
      have HA : Hid (ARel w (wr.drew.setCell ⟨gi, k, none⟩ (.int .i64 (x + 1))) g cap n m Z) := hst
      have w1' : IntKind.i64.wrap (x + 1) = x + 1 := IntWalk.i64_in _ (by omega)
      clear hst HS har HM HY HZ2 HM1
      go_upto_region 8 with (fail)
      go_still_tail 14, (by kernel_rfl)
      change wpList _ _ _ _ _ wr.drew
      have r4' : wr.drew.cell? ⟨gi, k, none⟩ = some (.int .i64 x) := r4
      have r5' : wr.drew.frozen? ⟨gi, k, none⟩ = false := r5
      clear w1' r3 r4 r5
      generalize wr.drew = wd at *
      go_upto_region 9 with (fail)
      obtain ⟨w3, HW3⟩ : ∃ y, Hid (y = wd.setCell ⟨gi, k, none⟩ (.int .i64 (x + 1))) := ⟨_, rfl⟩
      have hww := HW3.out
      rw [← hww]
      rw [← hww] at HA
      have HA2 := HA
      clear hww r4' r5'
      have hr := HA2.out.1.rd
      go_wp2_with fail
      refine (specIsHeap_any _ _ _ _ Z _ _ hr (Nat.le_refl _)).mono ?_
      rintro e w5 ⟨rfl, hb5⟩
      rw [HTT.out]
      have HA3 := Lib.hid (HA2.out.below hb5)
      cases t
      · have HM5 := Lib.hid (MRel.after HA3.out.2.1 (MRel.start w5))
        go_wp2_with fail
        go_ret2
        exact ⟨_, _, rfl, HM5.out.1, HM5.out.2.2.1, HM5.out.2.1⟩
      · go_wp2_with fail
        go_ret2
        exact ⟨_, _, rfl, HA3.out.1, Nat.le_refl _, HA3.out.2.1⟩

theorem AddCube_any (a b c : Int) (u : Value) (zss : List (List Int)) (r q : Int) (B : Nat) (w : World) (h : RdII w B u zss) (hB : B ≤ w.heap.size) :
    Calls Try.prog 18 #[.int .i64 a, .int .i64 b, .int .i64 c, u, .int .i64 r, .int .i64 q] w (RetMB w (addZ a b c zss r q) (addOk a b c zss r q)) := by
  cases hp : (heapB a b c zss && inB r 0 (a - 1) && inB q 0 (b - 1))
  · have e1 : addOk a b c zss r q = false := by simp [addOk, hp]
    have e0 : addZ a b c zss r q = [] := by simp [addZ, e1]
    rw [e0, e1]
    refine AddCube_no a b c u zss r q B w h hB hp ?_ ?_
    · cases hh : heapB a b c zss
      · exact .inr rfl
      · have := ((heapB_iff _ _ _ _).1 hh).1; exact .inl (by omega)
    · cases hh : heapB a b c zss
      · exact .inr rfl
      · have := ((heapB_iff _ _ _ _).1 hh).1; exact .inl (by omega)
  · have hp2 := hp
    simp only [Bool.and_eq_true] at hp2
    obtain ⟨⟨hh, h1⟩, h2⟩ := hp2
    have hb := ((heapB_iff _ _ _ _).1 hh).1
    obtain ⟨h1a, h1b⟩ := (inB_iff _ _ _).1 h1
    obtain ⟨h2a, h2b⟩ := (inB_iff _ _ _).1 h2
    obtain ⟨n, rfl⟩ := Int.eq_ofNat_of_zero_le (show 0 ≤ a by omega)
    obtain ⟨m, rfl⟩ := Int.eq_ofNat_of_zero_le (show 0 ≤ b by omega)
    obtain ⟨i, rfl⟩ := Int.eq_ofNat_of_zero_le h1a
    obtain ⟨k, rfl⟩ := Int.eq_ofNat_of_zero_le h2a
    have e1 : addOk n m c zss i k = heapB n m c (addM zss i k) := by unfold addOk; rw [hp]; simp
    have e0 : addZ n m c zss i k = addOut (heapB n m c (addM zss i k)) (addM zss i k) := by unfold addZ addOut; rw [e1]; simp
    rw [e0, e1]
    exact AddCube_yes n m c u zss i k B w h hB hh (by omega) (by omega) _ rfl

theorem specAddCube_any (a b c : Int) (u : Value) (zss : List (List Int)) (r q : Int) (B : Nat) (w : World) (h : RdII w B u zss) (hB : B ≤ w.heap.size) :
    Calls Try.prog 16 #[.int .i64 a, .int .i64 b, .int .i64 c, u, .int .i64 r, .int .i64 q] w (RetMB w (addZ a b c zss r q) (addOk a b c zss r q)) := by
  cases hp : (heapB a b c zss && inB r 0 (a - 1) && inB q 0 (b - 1))
  · have e1 : addOk a b c zss r q = false := by simp [addOk, hp]
    have e0 : addZ a b c zss r q = [] := by simp [addZ, e1]
    rw [e0, e1]
    refine specAddCube_no a b c u zss r q B w h hB hp ?_ ?_
    · cases hh : heapB a b c zss
      · exact .inr rfl
      · have := ((heapB_iff _ _ _ _).1 hh).1; exact .inl (by omega)
    · cases hh : heapB a b c zss
      · exact .inr rfl
      · have := ((heapB_iff _ _ _ _).1 hh).1; exact .inl (by omega)
  · have hp2 := hp
    simp only [Bool.and_eq_true] at hp2
    obtain ⟨⟨hh, h1⟩, h2⟩ := hp2
    have hb := ((heapB_iff _ _ _ _).1 hh).1
    obtain ⟨h1a, h1b⟩ := (inB_iff _ _ _).1 h1
    obtain ⟨h2a, h2b⟩ := (inB_iff _ _ _).1 h2
    obtain ⟨n, rfl⟩ := Int.eq_ofNat_of_zero_le (show 0 ≤ a by omega)
    obtain ⟨m, rfl⟩ := Int.eq_ofNat_of_zero_le (show 0 ≤ b by omega)
    obtain ⟨i, rfl⟩ := Int.eq_ofNat_of_zero_le h1a
    obtain ⟨k, rfl⟩ := Int.eq_ofNat_of_zero_le h2a
    have e1 : addOk n m c zss i k = heapB n m c (addM zss i k) := by unfold addOk; rw [hp]; simp
    have e0 : addZ n m c zss i k = addOut (heapB n m c (addM zss i k)) (addM zss i k) := by unfold addZ addOut; rw [e1]; simp
    rw [e0, e1]
    exact specAddCube_yes n m c u zss i k B w h hB hh (by omega) (by omega) _ rfl
end Go.Proofs.Ytpockbbfbnaioaa
