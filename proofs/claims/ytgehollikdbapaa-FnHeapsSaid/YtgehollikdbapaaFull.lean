/- Contracts of FullHeap of the program and of the reference. -/
import Derived.Test.YtgehollikdbapaaRect
import Derived.Test.YtgehollikdbapaaHeapS
import Derived.StillTailTactics
import Derived.Deep.DeepCutAuto
import Derived.Deep.Cut
import Derived.IntWalk
namespace Go.Proofs.Ytgehollikdbapaa
open Go.RowKit

def gRow (c : Int) (zss : List (List Int)) (a b i n : Nat) : List Int := (List.range n).map fun k => c - el (rw' zss (a - 1 - i)) (b - 1 - k)
def gAll (c : Int) (zss : List (List Int)) (a b n : Nat) : List (List Int) := (List.range n).map fun i => gRow c zss a b i b
def fullZ (a b c : Int) (zss : List (List Int)) : List (List Int) := if heapB a b c zss then gAll c zss a.toNat b.toNat a.toNat else []
/-- A new slice of new rows and a bool come back. -/
def RetMB (w : World) (zss : List (List Int)) (t : Bool) (e : Ending) (w' : World) : Prop := ∃ v hi, e = .returned (.tuple #[v, .bool t]) ∧ OwnM w' w.heap.size hi v zss ∧ hi ≤ w'.heap.size ∧ Below w.heap.size w w'
theorem gAll_el (c : Int) (zss : List (List Int)) (a b i k : Nat) (hi : i < a) (hk : k < b) : el (rw' (gAll c zss a b a) i) k = c - el (rw' zss (a - 1 - i)) (b - 1 - k) := by simp [gAll, rw', hi, gRow, el, hk]
theorem gAll_shape (c : Int) (zss : List (List Int)) (a b : Nat) : RShape a b (gAll c zss a b a) := ⟨by simp [gAll], fun i hi => by simp [gAll, rw', hi, gRow]⟩
theorem rect_ext {a b : Nat} {m m' : List (List Int)} (h : RShape a b m) (h' : RShape a b m') (he : ∀ i k, i < a → k < b → el (rw' m i) k = el (rw' m' i) k) : m = m' := by
  apply List.ext_getElem
  · rw [h.1, h'.1]
  · intro i h1 h2
    have hi : i < a := by rw [← h.1]; exact h1
    have e1 : m[i] = rw' m i := (rw_get m i h1).symm
    have e2 : m'[i] = rw' m' i := (rw_get m' i h2).symm
    rw [e1, e2]
    apply List.ext_getElem
    · rw [h.2 i hi, h'.2 i hi]
    · intro k k1 k2
      have := he i k hi (by rw [← h.2 i hi]; exact k1)
      rwa [el_get _ _ k1, el_get _ _ k2] at this
/-- What a heap is, in plain words. -/
theorem heap_facts {n m : Nat} {c : Int} {zss : List (List Int)} (h : heapB n m c zss = true) : (1 ≤ n ∧ n ≤ 3) ∧ (1 ≤ m ∧ m ≤ 3) ∧ (1 ≤ c ∧ c ≤ 3) ∧ RShape n m zss ∧ ∀ i k, i < n → k < m → 0 ≤ el (rw' zss i) k ∧ el (rw' zss i) k ≤ c := by
  obtain ⟨⟨a1, a2, a3⟩, hl, hr⟩ := (heapB_iff _ _ _ _).1 h
  have hl' : zss.length = n := by omega
  have hs : ∀ i, i < n → (rw' zss i).length = m := fun i hi => by have := ((hrowB_iff _ _ _ _ _).1 (hr i (by omega))).1; omega
  exact ⟨by omega, by omega, a3, ⟨hl', hs⟩, fun i k hi hk => ((hrowB_iff _ _ _ _ _).1 (hr i (by omega))).2.1 k (by rw [hs i hi]; exact hk)⟩
theorem RdII.at {w : World} {B a b : Nat} {v : Value} {zss : List (List Int)} (h : RdII w B v zss) (hs : RShape a b zss) : ∃ A c, v = .slice A a c ∧ a ≤ c ∧ c ≤ 9223372036854775807 ∧
    Hid (∀ i, i < a → ∃ ad A' c', A = some ad ∧ ad.block < B ∧ w.cell? (ad.add i) = some (.slice A' b c') ∧ b ≤ c' ∧ c' ≤ 9223372036854775807 ∧ ∀ k, k < b → ∃ ad', A' = some ad' ∧ ad'.block < B ∧ w.cell? (ad'.add k) = some (.int .i64 (el (rw' zss i) k))) := by
  obtain ⟨A, c, rfl, h1, h2, h3⟩ := h.open_
  have hl := hs.1
  subst hl
  refine ⟨A, c, rfl, h1, h2, fun i hi => ?_⟩
  obtain ⟨ad, u, e, hb, hc, A', c', rfl, q1, q2, q3⟩ := h3 i hi
  have hr := hs.2 i hi
  rw [hr] at hc q1
  refine ⟨ad, A', c', e, hb, hc, q1, q2, fun k hk => ?_⟩
  exact q3.el (by rw [hr]; exact hk)

theorem set_el (M : List (List Int)) (a b i k : Nat) (z : Int) (hs : RShape a b M) (hi : i < a) (hk : k < b) (i' k' : Nat) (_ : i' < a) (_ : k' < b) :
    el (rw' (M.set i ((rw' M i).set k z)) i') k' = if i' = i ∧ k' = k then z else el (rw' M i') k' := by
  rw [rw_set M i _ i' (by rw [hs.1]; exact hi)]
  by_cases e : i' = i
  · subst e
    rw [if_pos rfl]
    unfold el
    rw [List.getD_eq_getElem?_getD, List.getD_eq_getElem?_getD, List.getElem?_set]
    by_cases e2 : k = k'
    · subst e2; simp [hs.2 i' hi, hk]
    · rw [if_neg e2, if_neg (fun h => e2 h.2.symm)]
  · rw [if_neg e, if_neg (fun h => e h.1)]

set_option maxRecDepth 100000 in
set_option maxHeartbeats 8000000 in
theorem FullHeap_yes (n m : Nat) (c : Int) (u : Value) (zss : List (List Int)) (B : Nat) (w : World) (h : RdII w B u zss) (hB : B ≤ w.heap.size) (hh : heapB n m c zss = true) :
    Calls Try.prog 18 #[.int .i64 n, .int .i64 m, .int .i64 c, u] w (RetMB w (gAll c zss n m n) true) := by
  obtain ⟨⟨hn1, hn2⟩, ⟨hm1, hm2⟩, ⟨hc1, hc2⟩, hsh, hel⟩ := heap_facts hh
  have HU := Lib.hid h
  obtain ⟨A, cc, rfl, k1, k2, HH⟩ := h.at hsh
  clear h
  have HSH := Lib.hid hsh; clear hsh
  have HEL := Lib.hid hel; clear hel
  go_enter Try.func18, Try.ntmps18
  go_wp2_with fail
  refine (IsHeap_any _ _ _ _ zss _ _ HU.out hB).mono ?_
  rintro e w1 ⟨rfl, hb1⟩
  rw [hh]
  have hs1 := hb1.size
  go_wp2_with fail
  refine (copyRows_any _ zss _ _ (HU.out.below (hb1.mono hB)) (Nat.le_trans hB hs1) (by rw [HSH.out.1]; omega) (fun i hi => by rw [HSH.out.2 i (by rw [← HSH.out.1]; exact hi)]; omega)).mono ?_
  rintro e w2 ⟨v2, hi2, rfl, ho2, hx2, hb2⟩
  obtain ⟨g, cap, rfl, q1, q2, har⟩ := (RetM.mrel ho2 hx2 hb2).rect HSH.out (by omega)
  have HA := Lib.hid har
  have hbw := hb1.trans (hb2.mono hs1)
  clear har ho2 hx2 hb2
  go_wp2_with fail
  go_loopw [22] (fun s wr => ∃ (i : Nat) (M : List (List Int)), i ≤ n ∧ s = .int .i64 i ∧ Hid (ARel w1 wr g cap n m M) ∧ Hid (∀ i' k', i' < n → k' < m → el (rw' M i') k' = if i' < i then c - el (rw' zss (n - 1 - i')) (m - 1 - k') else el (rw' zss i') k')) (fun s _ => n - (intOf s).toNat)
  case atStart => exact ⟨0, _, Nat.zero_le _, rfl, HA, fun i' k' _ _ => by rw [if_neg (by omega)]⟩
  case round =>
    obtain ⟨i, M, hi, rfl, HA2, HM⟩ := hrel
    by_cases hlt : i < n
    · have ht : decide ((i : Int) < (n : Int)) = true := by simp only [decide_eq_true_eq]; omega
      go_wp2_with fail
      go_loopw [26] (fun s wr => ∃ (k : Nat) (M2 : List (List Int)), k ≤ m ∧ s = .int .i64 k ∧ Hid (ARel w1 wr g cap n m M2) ∧ Hid (∀ i' k', i' < n → k' < m → el (rw' M2 i') k' = if i' < i ∨ (i' = i ∧ k' < k) then c - el (rw' zss (n - 1 - i')) (m - 1 - k') else el (rw' zss i') k')) (fun s _ => m - (intOf s).toNat)
      case atStart => exact ⟨0, M, Nat.zero_le _, rfl, HA2, fun i' k' a b => by rw [HM.out i' k' a b]; simp⟩
      case round =>
        obtain ⟨k, M2, hk, rfl, HA3, HM2⟩ := hrel
        by_cases hlk : k < m
        · have htk : decide ((k : Int) < (m : Int)) = true := by simp only [decide_eq_true_eq]; omega
          obtain ⟨p, hp⟩ : ∃ p, p = n - 1 - i := ⟨_, rfl⟩
          obtain ⟨q, hq⟩ : ∃ q, q = m - 1 - k := ⟨_, rfl⟩
          obtain ⟨ad, A', c', rfl, had, hr, p1, p2, hcs⟩ := HH.out p (by omega)
          obtain ⟨ad', rfl, had', hx⟩ := hcs q (by omega)
          obtain ⟨e1, e2⟩ := HEL.out p q (by omega) (by omega)
          have hbz := hb1.trans (HA3.out.2.1.mono hs1)
          have hr2 := (hbz.cell (p := ad.add p) (by rw [addBlock]; omega)).trans hr
          have hx2 := (hbz.cell (p := ad'.add q) (by rw [addBlock]; omega)).trans hx
          obtain ⟨gi, ci, r1, r2, r3, r4, r5, HS⟩ := HA3.out.at hlt hlk
          have HP := Lib.hid hp
          have HQ := Lib.hid hq
          obtain ⟨x, HX⟩ : ∃ x, Hid (x = el (rw' zss p) q) := ⟨_, rfl⟩
          rw [← HX.out] at hx2 e1 e2
          have w1' : IntKind.i64.wrap ((n : Int) - 1) = (n : Int) - 1 := IntWalk.i64_in _ (by omega)
          have w2' : IntKind.i64.wrap ((n : Int) - 1 - (i : Int)) = (p : Int) := by rw [show (n : Int) - 1 - (i : Int) = (p : Int) by omega]; exact IntWalk.i64_in _ (by omega)
          have w3' : IntKind.i64.wrap ((m : Int) - 1) = (m : Int) - 1 := IntWalk.i64_in _ (by omega)
          have w4' : IntKind.i64.wrap ((m : Int) - 1 - (k : Int)) = (q : Int) := by rw [show (m : Int) - 1 - (k : Int) = (q : Int) by omega]; exact IntWalk.i64_in _ (by omega)
          have w5' : IntKind.i64.wrap (c - x) = c - x := IntWalk.i64_in _ (by omega)
          have z1 : (0 : Int) ≤ (p : Int) := by omega
          have z2 : (p : Int) < (n : Int) := by omega
          have z3 : (0 : Int) ≤ (q : Int) := by omega
          have z4 : (q : Int) < (m : Int) := by omega
          have z5 : (0 : Int) ≤ (i : Int) := by omega
          have z6 : (i : Int) < (n : Int) := by omega
          have z7 : (0 : Int) ≤ (k : Int) := by omega
          have z8 : (k : Int) < (m : Int) := by omega
          have HS2 : Hid (ARel w1 (wr.drew.setCell ⟨gi, k, none⟩ (.int .i64 (c - x))) g cap n m (M2.set i ((rw' M2 i).set k (c - x)))) := (HS.out (c - x)).below ((Below.refl _ _).drew)
          have HM3 : Hid (∀ i' k', i' < n → k' < m → el (rw' (M2.set i ((rw' M2 i).set k (c - x))) i') k' = if i' < i ∨ (i' = i ∧ k' < k + 1) then c - el (rw' zss (n - 1 - i')) (m - 1 - k') else el (rw' zss i') k') := fun i' k' a b => by
            rw [set_el M2 n m i k _ HA3.out.2.2 hlt hlk i' k' a b]
            by_cases e : i' = i ∧ k' = k
            · rw [if_pos e, if_pos (by omega), HX.out, HP.out, HQ.out, e.1, e.2]
            · rw [if_neg e, HM2.out i' k' a b]
              by_cases e3 : i' < i ∨ (i' = i ∧ k' < k)
              · rw [if_pos e3, if_pos (by omega)]
              · rw [if_neg e3, if_neg (by omega)]
          clear hp hq hcs hr hx hbz HS
          go_upto_region 10 with (fail)
          go_still_tail 21, (by kernel_rfl)
          change wpList _ _ _ _ _ wr.drew
          have r4' : wr.drew.cell? ⟨gi, k, none⟩ = some (.int .i64 (el (rw' M2 i) k)) := r4
          have r5' : wr.drew.frozen? ⟨gi, k, none⟩ = false := r5
          clear w1' w2' w3' w4' w5' r3 r4 r5 hr2 hx2
          generalize wr.drew = wd at *
          go_wp2_with fail
          go_roundw
          case rel => exact ⟨k + 1, _, by omega, by go_num, HS2, HM3⟩
          case measure => simp [intOf]; omega
        · have HM4 : Hid (∀ i' k', i' < n → k' < m → el (rw' M2 i') k' = if i' < i + 1 then c - el (rw' zss (n - 1 - i')) (m - 1 - k') else el (rw' zss i') k') := fun i' k' a b => by
            rw [HM2.out i' k' a b]
            by_cases e3 : i' < i ∨ (i' = i ∧ k' < k)
            · rw [if_pos e3, if_pos (by omega)]
            · rw [if_neg e3, if_neg (by omega)]
          go_wp2_with fail
          go_roundw
          case rel => exact ⟨i + 1, M2, by omega, by go_num, HA3, HM4⟩
          case measure => simp [intOf]; omega
    · have HK : Hid (M = gAll c zss n m n) := rect_ext HA2.out.2.2 (gAll_shape c zss n m) fun i' k' a b => by rw [HM.out i' k' a b, if_pos (by omega), gAll_el c zss n m i' k' a b]
      have HR := Lib.hid (MRel.after hb1 ⟨HA2.out.1, HA2.out.2.1, Nat.le_refl _, HA2.out.2.1.size⟩)
      go_wp2_with fail
      go_ret2
      exact ⟨_, _, rfl, by rw [← HK.out]; exact HR.out.1, Nat.le_refl _, HR.out.2.1⟩

theorem FullHeap_any (a b c : Int) (u : Value) (zss : List (List Int)) (B : Nat) (w : World) (h : RdII w B u zss) (hB : B ≤ w.heap.size) :
    Calls Try.prog 18 #[.int .i64 a, .int .i64 b, .int .i64 c, u] w (RetMB w (fullZ a b c zss) (heapB a b c zss)) := by
  cases hh : heapB a b c zss
  · have e0 : fullZ a b c zss = [] := by simp [fullZ, hh]
    rw [e0]; clear e0
    have HU := Lib.hid h
    obtain ⟨A, cc, rfl, _⟩ := h.open_
    clear h
    go_enter Try.func18, Try.ntmps18
    go_wp2_with fail
    refine (IsHeap_any _ _ _ _ zss _ _ HU.out hB).mono ?_
    rintro e w1 ⟨rfl, hb1⟩
    rw [hh]
    go_wp2_with fail
    go_ret2
    exact ⟨_, 0, rfl, OwnM.none _ _, Nat.zero_le _, hb1⟩
  · have hb := ((heapB_iff _ _ _ _).1 hh).1
    obtain ⟨n, rfl⟩ := Int.eq_ofNat_of_zero_le (show 0 ≤ a by omega)
    obtain ⟨m, rfl⟩ := Int.eq_ofNat_of_zero_le (show 0 ≤ b by omega)
    have e0 : fullZ n m c zss = gAll c zss n m n := by simp [fullZ, hh]
    rw [e0]
    exact FullHeap_yes n m c u zss B w h hB hh

theorem gAll_succ (c : Int) (zss : List (List Int)) (a b n : Nat) : gAll c zss a b (n + 1) = gAll c zss a b n ++ [gRow c zss a b n b] := by simp [gAll, List.range_succ]
theorem gRow_succ (c : Int) (zss : List (List Int)) (a b i n : Nat) : gRow c zss a b i (n + 1) = gRow c zss a b i n ++ [c - el (rw' zss (a - 1 - i)) (b - 1 - n)] := by simp [gRow, List.range_succ]

end Go.Proofs.Ytgehollikdbapaa
