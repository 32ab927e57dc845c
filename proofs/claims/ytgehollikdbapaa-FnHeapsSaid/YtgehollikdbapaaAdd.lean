/- Contracts of AddCube of the program and of the reference. -/
import Derived.Test.YtgehollikdbapaaFull
import Derived.Test.YtgehollikdbapaaSrcRow
namespace Go.Proofs.Ytgehollikdbapaa
open Go.RowKit

def addM (zss : List (List Int)) (i k : Nat) : List (List Int) := zss.set i ((rw' zss i).set k (el (rw' zss i) k + 1))
def addOut (t : Bool) (z : List (List Int)) : List (List Int) := if t then z else []
def addOk (a b c : Int) (zss : List (List Int)) (r q : Int) : Bool := heapB a b c zss && inB r 0 (a - 1) && inB q 0 (b - 1) && heapB a b c (addM zss r.toNat q.toNat)
def addZ (a b c : Int) (zss : List (List Int)) (r q : Int) : List (List Int) := if addOk a b c zss r q then addM zss r.toNat q.toNat else []


set_option maxHeartbeats 4000000 in
theorem AddCube_no (a b c : Int) (u : Value) (zss : List (List Int)) (r q : Int) (B : Nat) (w : World) (h : RdII w B u zss) (hB : B ≤ w.heap.size) (hn : (heapB a b c zss && inB r 0 (a - 1) && inB q 0 (b - 1)) = false) (ha : 0 ≤ a ∧ a ≤ 3 ∨ heapB a b c zss = false) (hb : 0 ≤ b ∧ b ≤ 3 ∨ heapB a b c zss = false) :
    Calls Try.prog 20 #[.int .i64 a, .int .i64 b, .int .i64 c, u, .int .i64 r, .int .i64 q] w (RetMB w [] false) := by
  have HU := Lib.hid h
  obtain ⟨A, cc, rfl, _⟩ := h.open_
  clear h
  cases hh : heapB a b c zss
  · clear ha hb hn
    go_enter Try.func20, Try.ntmps20
    go_wp2_with fail
    refine (IsHeap_any _ _ _ _ zss _ _ HU.out hB).mono ?_
    rintro e w1 ⟨rfl, hb1⟩
    rw [hh]
    go_wp2_with fail
    go_ret2
    exact ⟨_, 0, rfl, OwnM.none _ _, Nat.zero_le _, hb1⟩
  · rw [hh] at hn ha hb
    have ha : 0 ≤ a ∧ a ≤ 3 := by simpa using ha
    have hb : 0 ≤ b ∧ b ≤ 3 := by simpa using hb
    obtain ⟨a1, a2⟩ := ha
    obtain ⟨b1, b2⟩ := hb
    cases h1 : inB r 0 (a - 1)
    · clear hn
      go_enter Try.func20, Try.ntmps20
      go_wp2_with fail
      refine (IsHeap_any _ _ _ _ zss _ _ HU.out hB).mono ?_
      rintro e w1 ⟨rfl, hb1⟩
      rw [hh]
      go_wp2_with fail
      refine (within_any _ _ _ _).mono ?_
      rintro e w2 ⟨rfl, rfl⟩
      rw [h1]
      go_wp2_with fail
      go_ret2
      exact ⟨_, 0, rfl, OwnM.none _ _, Nat.zero_le _, hb1⟩
    · have h2 : inB q 0 (b - 1) = false := by rw [h1] at hn; simpa using hn
      clear hn
      go_enter Try.func20, Try.ntmps20
      go_wp2_with fail
      refine (IsHeap_any _ _ _ _ zss _ _ HU.out hB).mono ?_
      rintro e w1 ⟨rfl, hb1⟩
      rw [hh]
      go_wp2_with fail
      refine (within_any _ _ _ _).mono ?_
      rintro e w2 ⟨rfl, rfl⟩
      rw [h1]
      go_wp2_with fail
      refine (within_any _ _ _ _).mono ?_
      rintro e w2 ⟨rfl, rfl⟩
      rw [h2]
      go_wp2_with fail
      go_ret2
      exact ⟨_, 0, rfl, OwnM.none _ _, Nat.zero_le _, hb1⟩

set_option maxRecDepth 100000 in
set_option maxHeartbeats 8000000 in
theorem AddCube_yes (n m : Nat) (c : Int) (u : Value) (zss : List (List Int)) (i k : Nat) (B : Nat) (w : World) (h : RdII w B u zss) (hB : B ≤ w.heap.size) (hh : heapB n m c zss = true) (hi : i < n) (hk : k < m) (t : Bool) (hT : heapB n m c (addM zss i k) = t) :
    Calls Try.prog 20 #[.int .i64 n, .int .i64 m, .int .i64 c, u, .int .i64 i, .int .i64 k] w (RetMB w (addOut t (addM zss i k)) t) := by
  obtain ⟨⟨hn1, hn2⟩, ⟨hm1, hm2⟩, ⟨hc1, hc2⟩, hsh, hel⟩ := heap_facts hh
  have h1 : inB i 0 ((n : Int) - 1) = true := inB_true (by omega) (by omega)
  have h2 : inB k 0 ((m : Int) - 1) = true := inB_true (by omega) (by omega)
  have HU := Lib.hid h
  obtain ⟨e1, e2⟩ := hel i k hi hk
  obtain ⟨x, HX⟩ : ∃ x, Hid (x = el (rw' zss i) k) := ⟨_, rfl⟩
  rw [← HX.out] at e1 e2
  have HSH := Lib.hid hsh; clear hsh hel
  have i0 : (0 : Int) ≤ (i : Int) := by omega
  have i1 : (i : Int) < (n : Int) := by omega
  have k0 : (0 : Int) ≤ (k : Int) := by omega
  have k1 : (k : Int) < (m : Int) := by omega
  have HAM : Hid (zss.set i ((rw' zss i).set k (x + 1)) = addM zss i k) := by unfold Hid addM; rw [HX.out]
  generalize hz : addM zss i k = Z at *
  have HZ := Lib.hid hz; clear hz
  have HTT := Lib.hid hT; clear hT
  obtain ⟨A, cc, rfl, _⟩ := h.open_
  clear h
  go_enter Try.func20, Try.ntmps20
  go_wp2_with fail
  refine (IsHeap_any _ _ _ _ zss _ _ HU.out hB).mono ?_
  rintro e w1 ⟨rfl, hb1⟩
  rw [hh]
  have hs1 := hb1.size
  go_wp2_with fail
  refine (within_any _ _ _ _).mono ?_
  rintro e w2 ⟨rfl, rfl⟩
  rw [h1]
  go_wp2_with fail
  refine (within_any _ _ _ _).mono ?_
  rintro e w2 ⟨rfl, rfl⟩
  rw [h2]
  go_wp2_with fail
  refine (copyRows_any _ zss _ _ (HU.out.below (hb1.mono hB)) (Nat.le_trans hB hs1) (by rw [HSH.out.1]; omega) (fun i hi => by rw [HSH.out.2 i (by rw [← HSH.out.1]; exact hi)]; omega)).mono ?_
  rintro e w2 ⟨v2, hi2, rfl, ho2, hx2, hb2⟩
  obtain ⟨g, cap, rfl, q1, q2, har⟩ := (RetM.mrel ho2 hx2 hb2).rect HSH.out (by omega)
  obtain ⟨gi, ci, r1, r2, r3, r4, r5, HS⟩ := har.at hi hk
  rw [← HX.out] at r4
  have hst := HS.out (x + 1)
  rw [HAM.out] at hst
  have HA := Lib.hid hst
  clear hst HS ho2 hx2 hb2 har
  go_upto_region 5 with (fail)
  obtain ⟨w3, HW3⟩ : ∃ y, Hid (y = w2.setCell ⟨gi, k, none⟩ (.int .i64 (x + 1))) := ⟨_, rfl⟩
  have hww := HW3.out
  rw [← hww]
  rw [← hww] at HA
  have HA2 := HA
  clear hww r3 r4 r5
  have hr := HA2.out.1.rd
  go_wp2_with fail
  refine (IsHeap_any _ _ _ _ Z _ _ hr (Nat.le_refl _)).mono ?_
  rintro e w5 ⟨rfl, hb5⟩
  rw [HTT.out]
  have HA3 := Lib.hid (HA2.out.below hb5)
  cases t
  · go_wp2_with fail
    go_ret2
    exact ⟨_, 0, rfl, OwnM.none _ _, Nat.zero_le _, hb1.trans (HA3.out.2.1.mono hs1)⟩
  · have HR := Lib.hid (MRel.after hb1 ⟨HA3.out.1, HA3.out.2.1, Nat.le_refl _, HA3.out.2.1.size⟩)
    go_wp2_with fail
    go_ret2
    exact ⟨_, _, rfl, HR.out.1, Nat.le_refl _, HR.out.2.1⟩

theorem AddCube_any (a b c : Int) (u : Value) (zss : List (List Int)) (r q : Int) (B : Nat) (w : World) (h : RdII w B u zss) (hB : B ≤ w.heap.size) :
    Calls Try.prog 20 #[.int .i64 a, .int .i64 b, .int .i64 c, u, .int .i64 r, .int .i64 q] w (RetMB w (addZ a b c zss r q) (addOk a b c zss r q)) := by
  cases hp : (heapB a b c zss && inB r 0 (a - 1) && inB q 0 (b - 1))
  · have e1 : addOk a b c zss r q = false := by simp [addOk, hp]
    have e0 : addZ a b c zss r q = [] := by simp [addZ, e1]
    rw [e0, e1]
    refine AddCube_no a b c u zss r q B w h hB hp ?_ ?_
    · cases hh : heapB a b c zss
      · exact .inr rfl
      · have := ((heapB_iff _ _ _ _).1 hh).1; exact .inl (by omega)
    · cases hh : heapB a b c zss
      · exact .inr rfl
      · have := ((heapB_iff _ _ _ _).1 hh).1; exact .inl (by omega)
  · have hp2 := hp
    simp only [Bool.and_eq_true] at hp2
    obtain ⟨⟨hh, h1⟩, h2⟩ := hp2
    have hb := ((heapB_iff _ _ _ _).1 hh).1
    obtain ⟨h1a, h1b⟩ := (inB_iff _ _ _).1 h1
    obtain ⟨h2a, h2b⟩ := (inB_iff _ _ _).1 h2
    obtain ⟨n, rfl⟩ := Int.eq_ofNat_of_zero_le (show 0 ≤ a by omega)
    obtain ⟨m, rfl⟩ := Int.eq_ofNat_of_zero_le (show 0 ≤ b by omega)
    obtain ⟨i, rfl⟩ := Int.eq_ofNat_of_zero_le h1a
    obtain ⟨k, rfl⟩ := Int.eq_ofNat_of_zero_le h2a
    have e1 : addOk n m c zss i k = heapB n m c (addM zss i k) := by unfold addOk; rw [hp]; simp
    have e0 : addZ n m c zss i k = addOut (heapB n m c (addM zss i k)) (addM zss i k) := by unfold addZ addOut; rw [e1]; simp
    rw [e0, e1]
    exact AddCube_yes n m c u zss i k B w h hB hh (by omega) (by omega) _ rfl

end Go.Proofs.Ytgehollikdbapaa
