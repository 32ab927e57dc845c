/- Diamonds, of the program and of the reference. -/
import Derived.Test.YtiecphhenpapoaaRectI
import Derived.Test.YtiecphhenpapoaaElsP
namespace Go.Proofs.Ytiecphhenpapoaa
open Go.RowKit
set_option linter.unusedVariables false

/-- Row y of the diamond of order n: its first cell and the one behind its last. -/
def dLo (n y : Nat) : Nat := if y < n then n - 1 - y else y - n
def dHi (n y : Nat) : Nat := if y < n then n + y + 1 else 3 * n - y
def diamTo (n : Nat) : Nat → List Int
  | 0 => []
  | y + 1 => diamTo n y ++ [((2 ^ dHi n y : Nat) : Int) - ((2 ^ dLo n y : Nat) : Int)]
def diamZ (n : Nat) : List Int := diamTo n (2 * n)
theorem diamTo_len (n : Nat) : ∀ k, (diamTo n k).length = k
  | 0 => rfl
  | k + 1 => by rw [diamTo, List.length_append, diamTo_len n k]; rfl
theorem d_facts {n y : Nat} (hn : n ≤ 4) (hy : y < 2 * n) : dLo n y ≤ dHi n y ∧ dHi n y ≤ 8 := by
  unfold dLo dHi
  split <;> omega
theorem pow_wrap {x : Nat} (hx : x ≤ 8) : IntKind.i64.wrap ((2 : Int) ^ x) = ((2 ^ x : Nat) : Int) ∧ (2 ^ x : Nat) ≤ 256 := by
  have h : 2 ^ x ≤ 2 ^ 8 := Nat.pow_le_pow_right (by omega) hx
  have e : ((2 : Int) ^ x) = ((2 ^ x : Nat) : Int) := by simp
  generalize (2 ^ x : Nat) = q at *
  have h : q ≤ 256 := by simpa using h
  exact ⟨by rw [e]; exact IntWalk.i64_in _ (by omega), h⟩

set_option maxRecDepth 100000 in
set_option maxHeartbeats 4000000 in
theorem specDiamond_yes (n : Nat) (hn : 1 ≤ n ∧ n ≤ 4) (w : World) :
    Calls Try.prog 121 #[.int .i64 (n : Int)] w fun e w' => ∃ u, e = .returned (.agg #[u]) ∧ RdI w' w'.heap.size u (diamZ n) ∧ Below w.heap.size w w' := by
  have t1 : inB (n : Int) 1 4 = true := inB_true (by omega) (by omega)
  have HDF := Lib.hid (fun y hy => d_facts (n := n) (y := y) hn.2 hy)
  have HDT : Hid (∀ k, diamTo n (k + 1) = diamTo n k ++ [((2 ^ dHi n k : Nat) : Int) - ((2 ^ dLo n k : Nat) : Int)]) := fun k => rfl
  have HDL := Lib.hid (diamTo_len n)
  have HD0 : Hid (diamTo n 0 = []) := rfl
  have HZ : Hid (diamZ n = diamTo n (2 * n)) := rfl
  rw [HZ.out]
  obtain ⟨st, HST⟩ : ∃ st, Hid (st = diamTo n) := ⟨_, rfl⟩
  rw [← HST.out] at HDT HDL HD0 ⊢
  obtain ⟨N, HN⟩ : ∃ N, Hid (N = 2 * n) := ⟨_, rfl⟩
  have hN : 2 * (n : Int) = (N : Int) := by have := HN.out; omega
  rw [← HN.out]
  have hN8 : N ≤ 8 := by have := HN.out; omega
  clear HST HZ
  go_enter Try.func121, Try.ntmps121
  go_wp2_with fail
  obtain ⟨W, hW, k1, k2, hbW⟩ := two_alloc w (.cells #[.slice none 0 0] 51) (.cells #[.slice none 0 0] 51)
  rw [← hW]
  have HR : Hid (RBld w W (.slice none 0 0) []) := ⟨k1, k2, ⟨OwnF.nil, hbW, by omega, by rw [hW]; simp⟩⟩
  clear hW k1 k2 hbW
  go_loopw [4] (fun i wr => ∃ (k : Nat) (v : Value), k ≤ N ∧ i = .int .i64 k ∧ Hid (RBld w wr v (st k))) (fun i _ => N - (intOf i).toNat)
  case atStart => exact ⟨0, _, Nat.zero_le _, rfl, by rw [HD0.out]; exact HR⟩
  case round =>
    obtain ⟨k, v, hk, rfl, HR⟩ := hrel
    obtain ⟨A, ca, hv, q1, q2, _⟩ := HR.out.acc.1.rd okInt
    have hlk := HDL.out k
    rw [hlk] at hv q1
    subst hv
    unfold maxLen at q2
    have c1 := cell_of_one HR.out.c1
    by_cases hlt : k < N
    · have HA := Lib.hid (HR.out.acc.below ((Below.refl wr.heap.size wr).drew))
      have ht : decide ((k : Int) < (N : Int)) = true := by simp only [decide_eq_true_eq]; omega
      have hlo := (HDF.out k (by have := HN.out; omega)).1
      have hhi := (HDF.out k (by have := HN.out; omega)).2
      have HNX := Lib.hid (HDT.out k)
      obtain ⟨lo, HLO⟩ : ∃ lo, Hid (dLo n k = lo) := ⟨_, rfl⟩
      obtain ⟨hi, HHI⟩ : ∃ hi, Hid (dHi n k = hi) := ⟨_, rfl⟩
      rw [HLO.out, HHI.out] at hlo
      rw [HHI.out] at hhi
      rw [HLO.out, HHI.out] at HNX
      obtain ⟨p1, p2⟩ := pow_wrap (x := hi) hhi
      obtain ⟨p3, p4⟩ := pow_wrap (x := lo) (by omega)
      have hle : (2 ^ lo : Nat) ≤ 2 ^ hi := Nat.pow_le_pow_right (by omega) hlo
      generalize (2 ^ hi : Nat) = P at *
      generalize (2 ^ lo : Nat) = Q at *
      obtain ⟨r, hr⟩ : ∃ r : Nat, (P : Int) - (Q : Int) = (r : Int) := ⟨P - Q, by omega⟩
      rw [hr] at HNX
      have hwr : IntKind.i64.wrap (r : Int) = (r : Int) := IntWalk.i64_in _ (by omega)
      have hwh : IntKind.i64.wrap (hi : Int) = (hi : Int) := IntWalk.i64_in _ (by omega)
      have HNL : Hid ((st k ++ [(r : Int)]).length = k + 1) := by unfold Hid; rw [List.length_append, hlk]; rfl
      have c1b : (wr.alloc (.cells #[.int .i64 (r : Int)] 3)).cell? ⟨w.heap.size + 1, 0, none⟩ = some (.slice A k ca) := (((Below.refl wr.heap.size wr).alloc (Nat.le_refl _) _).cell (p := ⟨w.heap.size + 1, 0, none⟩) (lt_of_block HR.out.c1)).trans c1
      have hk8 : k ≤ 8 := by omega
      have hks : (st k).length ≤ 8 := by rw [hlk]; exact hk8
      generalize st k = ys at *
      clear hlk
      go_wp2_with fail
      refine (l01In_any _ _ _ _).mono ?_
      rintro e w' ⟨rfl, rfl⟩
      rw [t1]
      by_cases hkn : k < n
      · have hc : decide ((k : Int) ≥ (n : Int)) = false := by simp only [decide_eq_false_iff_not]; omega
        have hc' : decide ((n : Int) ≤ (k : Int)) = false := by simp only [decide_eq_false_iff_not]; omega
        have e1 : (n : Int) - 1 - (k : Int) = (lo : Int) := by have := HLO.out; unfold dLo at this; rw [if_pos hkn] at this; omega
        have e2 : (n : Int) + (k : Int) + 1 = (hi : Int) := by have := HHI.out; unfold dHi at this; rw [if_pos hkn] at this; omega
        go_wp2_with fail
        go_region_law (refine step_push (wr := wr.drew) okInt (by rfl) _ _ (by rfl) HA.out (by rfl) (r : Int) _ (by rfl) wr.heap.size (by rfl) (by simp) (by omega) ?_; intro v' w2 HA2 HG2; obtain ⟨A2, ca2, hv2, _⟩ := HA2.out.1.rd okInt; rw [HNL.out] at hv2; rw [hv2] at HA2 HG2; rw [hv2]; clear hv2; obtain ⟨⟨u9, hk9⟩, hB9⟩ := HR.out.push HA2 HG2; have ck := cell_of_one hk9; have fk := free_of_one hk9; have HB9 := Lib.hid hB9; clear hB9 hk9)
        all_goals
          go_wp2_with fail
          go_roundw
          case rel => exact ⟨k + 1, _, by omega, by go_num, by rw [HNX.out]; exact HB9⟩
          case measure => simp [intOf]; omega
      · have hc : decide ((k : Int) ≥ (n : Int)) = true := by simp only [decide_eq_true_eq]; omega
        have hc' : decide ((n : Int) ≤ (k : Int)) = true := by simp only [decide_eq_true_eq]; omega
        have e1 : (k : Int) - (n : Int) = (lo : Int) := by have := HLO.out; unfold dLo at this; rw [if_neg hkn] at this; omega
        have e2 : 3 * (n : Int) - 1 - (k : Int) + 1 = (hi : Int) := by have := HHI.out; unfold dHi at this; rw [if_neg hkn] at this; omega
        go_wp2_with fail
        go_region_law (refine step_push (wr := wr.drew) okInt (by rfl) _ _ (by rfl) HA.out (by rfl) (r : Int) _ (by rfl) wr.heap.size (by rfl) (by simp) (by omega) ?_; intro v' w2 HA2 HG2; obtain ⟨A2, ca2, hv2, _⟩ := HA2.out.1.rd okInt; rw [HNL.out] at hv2; rw [hv2] at HA2 HG2; rw [hv2]; clear hv2; obtain ⟨⟨u9, hk9⟩, hB9⟩ := HR.out.push HA2 HG2; have ck := cell_of_one hk9; have fk := free_of_one hk9; have HB9 := Lib.hid hB9; clear hB9 hk9)
        all_goals
          go_wp2_with fail
          go_roundw
          case rel => exact ⟨k + 1, _, by omega, by go_num, by rw [HNX.out]; exact HB9⟩
          case measure => simp [intOf]; omega
    · obtain rfl : k = N := by omega
      have ht : decide ((k : Int) < (k : Int)) = false := by simp
      have c0 := cell_of_one HR.out.c0
      have f0 := free_of_one HR.out.c0
      have HX := Lib.hid HR.out
      have HLK := Lib.hid hlk
      clear hlk
      go_wp2_with fail
      refine (l01In_any _ _ _ _).mono ?_
      rintro e w' ⟨rfl, rfl⟩
      rw [t1]
      go_wp2_with fail
      have hl0 := lt_of_block HX.out.c0
      have hB := HX.out.acc.2.1
      have k9 : (wr.setCell ⟨w.heap.size, 0, none⟩ (.slice A k ca)).heap[w.heap.size]? = some (.cells #[.slice A k ca] 51 (0, 0)) := (blk_setCell HX.out.c0 _).trans (by simp)
      have r0 : (wr.setCell ⟨w.heap.size, 0, none⟩ (.slice A k ca)).cell? ⟨w.heap.size, 0, none⟩ = some (.slice A k ca) := cell_of_one k9
      have HNO : OwnI (wr.setCell ⟨w.heap.size, 0, none⟩ (.slice A k ca)) (w.heap.size + 2) (.slice A k ca) (st k) :=
        ownF_int.1 (ownsRow_keep (hi := wr.heap.size) HX.out.acc.1 (fun j hj => (HX.out.acc.lt j hj).2) fun j j1 j2 => Below.heap_setCell _ _ _ _ (by show j ≠ w.heap.size; omega))
      refine bodyPost_ret (v := .agg #[.slice A k ca]) (by simp [results, Try.results121, go_sem, r0]) rfl ⟨_, rfl, ?_, ?_⟩
      · exact HNO.rd
      · exact hB.setCell (Nat.le_refl _) _
end Go.Proofs.Ytiecphhenpapoaa

namespace Go.Proofs.Ytiecphhenpapoaa
open Go.RowKit
set_option linter.unusedVariables false

def rofTo (s : Nat) : Nat → List Int
  | 0 => []
  | y + 1 => rofTo s y ++ [((s / 2 ^ (8 * y) % 256 : Nat) : Int)]
theorem rofTo_len (s : Nat) : ∀ k, (rofTo s k).length = k
  | 0 => rfl
  | k + 1 => by rw [rofTo, List.length_append, rofTo_len s k]; rfl
theorem u64_255 (S : Nat) (hS : S < 18446744073709551616) : bits .and .u64 (S : Int) 255 = ((S % 256 : Nat) : Int) := by
  have h255 : (BitVec.ofInt 64 255).toNat = 2 ^ 8 - 1 := by decide
  have e1 : ((S : Int) % ((2 ^ 64 : Nat) : Int)).toNat = S := by omega
  have key : (BitVec.ofInt 64 (S : Int) &&& BitVec.ofInt 64 255).toNat = S % 2 ^ 8 := by
    rw [BitVec.toNat_and, BitVec.toNat_ofInt, e1, h255, Nat.and_two_pow_sub_one_eq_mod]
  show IntKind.u64.wrap ((BitVec.ofInt 64 (S : Int) &&& BitVec.ofInt 64 255).toNat : Nat) = _
  rw [key, IntKind.wrap_u64]
  omega
/-- While it is built: the result's cell, the region's cell behind the first row. -/
structure RBl2 (w : World) (wr : World) (v : Value) (zs : List Int) : Prop where
  c0 : wr.heap[w.heap.size]? = some (.cells #[.slice none 0 0] 51 (0, 0))
  c1 : wr.heap[w.heap.size + 2]? = some (.cells #[v] 51 (0, 0))
  acc : Acc elInt w (w.heap.size + 1) wr v zs
  ne : ∀ k, v.ownBlock = some k → k ≠ w.heap.size + 2
theorem RBl2.push {w wr w2 : World} {v v' : Value} {zs zs' : List Int} (h : RBl2 w wr v zs) (HA : Hid (Acc elInt w (w.heap.size + 1) w2 v' zs')) (HG : Hid (Grew wr.drew w2 v v')) :
    (∃ u, w2.heap[w.heap.size + 2]? = some (.cells #[u] 51 (0, 0))) ∧ RBl2 w (w2.setCell ⟨w.heap.size + 2, 0, none⟩ v') v' zs' := by
  have hl0 := lt_of_block h.c0
  have hl1 := lt_of_block h.c1
  obtain ⟨g1, g, g2, g3, g4⟩ := HG.out
  have k0 : w2.heap[w.heap.size]? = some (.cells #[.slice none 0 0] 51 (0, 0)) := by
    rw [g1.block _ hl0 (fun e => by have := (h.acc.1.lt _ e.symm).1; omega)]; exact h.c0
  have k1 : w2.heap[w.heap.size + 2]? = some (.cells #[v] 51 (0, 0)) := by
    rw [g1.block _ hl1 (fun e => h.ne _ e.symm rfl)]; exact h.c1
  have hg : g ≠ w.heap.size + 2 := by
    rcases g3 with g3 | g3
    · exact h.ne _ g3
    · have : wr.drew.heap.size = wr.heap.size := rfl
      omega
  refine ⟨⟨v, k1⟩, (Below.heap_setCell _ _ _ _ (by simp)).trans k0, (blk_setCell k1 _).trans (by simp), ?_, fun k hk => ?_⟩
  · obtain ⟨a1, a2, a3, a4⟩ := HA.out
    refine ⟨?_, a2.setCell (by show w.heap.size ≤ w.heap.size + 2; omega) _, a3, by simpa using a4⟩
    exact OwnF.same a1 fun k hk => Below.heap_setCell _ _ _ _ (by rw [g2] at hk; obtain rfl := Option.some.inj hk; exact hg)
  · rw [g2] at hk; obtain rfl := Option.some.inj hk; exact hg

set_option maxRecDepth 100000 in
set_option maxHeartbeats 2000000 in
theorem regionOf_any (s R : Nat) (hs : s < 18446744073709551616) (hR : R ≤ 8) (w : World) :
    Calls Try.prog 110 #[.int .u64 (s : Int), .int .i64 (R : Int)] w fun e w' => ∃ u, e = .returned (.agg #[u]) ∧ OwnI w' w.heap.size u (rofTo s R) ∧ Below w.heap.size w w' := by
  have HDT : Hid (∀ k, rofTo s (k + 1) = rofTo s k ++ [((s / 2 ^ (8 * k) % 256 : Nat) : Int)]) := fun k => rfl
  have HDL := Lib.hid (rofTo_len s)
  have HD0 : Hid (rofTo s 0 = []) := rfl
  obtain ⟨st, HST⟩ : ∃ st, Hid (st = rofTo s) := ⟨_, rfl⟩
  rw [← HST.out] at HDT HDL HD0 ⊢
  clear HST
  go_enter Try.func110, Try.ntmps110
  go_wp2_with fail
  obtain ⟨W, hW, k1, k2, k3, hbW⟩ := three_alloc w (.cells #[.slice none 0 0] 51) (.cells #[] 3) (.cells #[.slice (some ⟨w.heap.size + 1, 0, none⟩) 0 0] 51)
  rw [← hW]
  have HR : Hid (RBl2 w W (.slice (some ⟨w.heap.size + 1, 0, none⟩) 0 0) []) := ⟨k1, k3, ⟨⟨by simp, .inr ⟨w.heap.size + 1, 0, #[], rfl, Nat.le_refl _, k2, Nat.le_refl _, by simp [maxLen], by simp, by simp⟩⟩, hbW, by omega, by have := lt_of_block k2; omega⟩, fun k hk => by simp [Value.ownBlock] at hk; omega⟩
  clear hW k1 k2 k3 hbW
  go_loopw [10] (fun i wr => ∃ (k : Nat) (v : Value), k ≤ R ∧ i = .int .i64 k ∧ Hid (RBl2 w wr v (st k))) (fun i _ => R - (intOf i).toNat)
  case atStart => exact ⟨0, _, Nat.zero_le _, rfl, by rw [HD0.out]; exact HR⟩
  case round =>
    obtain ⟨k, v, hk, rfl, HR⟩ := hrel
    obtain ⟨A, ca, hv, q1, q2, _⟩ := HR.out.acc.1.rd okInt
    have hlk := HDL.out k
    rw [hlk] at hv q1
    subst hv
    unfold maxLen at q2
    have c1 := cell_of_one HR.out.c1
    by_cases hlt : k < R
    · have HA := Lib.hid (HR.out.acc.below ((Below.refl wr.heap.size wr).drew))
      have HNX := Lib.hid (HDT.out k)
      have hsh : (s : Int) / 2 ^ (8 * k) = ((s / 2 ^ (8 * k) : Nat) : Int) := by simp
      have hand := u64_255 (s / 2 ^ (8 * k)) (Nat.lt_of_le_of_lt (Nat.div_le_self _ _) hs)
      obtain ⟨r, HRR⟩ : ∃ r : Nat, Hid (s / 2 ^ (8 * k) % 256 = r) := ⟨_, rfl⟩
      have hr8 : r < 256 := by rw [← HRR.out]; exact Nat.mod_lt _ (by omega)
      rw [HRR.out] at hand HNX
      generalize s / 2 ^ (8 * k) = S at *
      have hw1 : IntKind.i64.wrap (8 * (k : Int)) = 8 * (k : Int) := IntWalk.i64_in _ (by omega)
      have hw2 : (8 * (k : Int)).toNat = 8 * k := by omega
      have hw3 : IntKind.i64.wrap (r : Int) = (r : Int) := IntWalk.i64_in _ (by omega)
      have hk0 : (0 : Int) ≤ 8 * (k : Int) := by omega
      have HNL : Hid ((st k ++ [(r : Int)]).length = k + 1) := by unfold Hid; rw [List.length_append, hlk]; rfl
      have c1b : (wr.alloc (.cells #[.int .i64 (r : Int)] 3)).cell? ⟨w.heap.size + 2, 0, none⟩ = some (.slice A k ca) := (((Below.refl wr.heap.size wr).alloc (Nat.le_refl _) _).cell (p := ⟨w.heap.size + 2, 0, none⟩) (lt_of_block HR.out.c1)).trans c1
      have hks : (st k).length ≤ 8 := by rw [hlk]; omega
      generalize st k = ys at *
      clear hlk
      go_wp2_with fail
      go_region_law (refine step_push (wr := wr.drew) okInt (by rfl) _ _ (by rfl) HA.out (by rfl) (r : Int) _ (by rfl) wr.heap.size (by rfl) (by simp) (by omega) ?_; intro v' w2 HA2 HG2; obtain ⟨A2, ca2, hv2, _⟩ := HA2.out.1.rd okInt; rw [HNL.out] at hv2; rw [hv2] at HA2 HG2; rw [hv2]; clear hv2; obtain ⟨⟨u9, hk9⟩, hB9⟩ := HR.out.push HA2 HG2; have ck := cell_of_one hk9; have fk := free_of_one hk9; have HB9 := Lib.hid hB9; clear hB9 hk9)
      all_goals
        go_wp2_with fail
        go_roundw
        case rel => exact ⟨k + 1, _, by omega, by go_num, by rw [HNX.out]; exact HB9⟩
        case measure => simp [intOf]; omega
    · obtain rfl : k = R := by omega
      have c0 := cell_of_one HR.out.c0
      have f0 := free_of_one HR.out.c0
      have HX := Lib.hid HR.out
      have HLK := Lib.hid hlk
      clear hlk
      go_wp2_with fail
      have hl0 := lt_of_block HX.out.c0
      have hB := HX.out.acc.2.1
      have k9 : (wr.setCell ⟨w.heap.size, 0, none⟩ (.slice A k ca)).heap[w.heap.size]? = some (.cells #[.slice A k ca] 51 (0, 0)) := (blk_setCell HX.out.c0 _).trans (by simp)
      have r0 : (wr.setCell ⟨w.heap.size, 0, none⟩ (.slice A k ca)).cell? ⟨w.heap.size, 0, none⟩ = some (.slice A k ca) := cell_of_one k9
      have HNO : OwnI (wr.setCell ⟨w.heap.size, 0, none⟩ (.slice A k ca)) (w.heap.size + 1) (.slice A k ca) (st k) :=
        ownF_int.1 (ownsRow_keep (hi := wr.heap.size) HX.out.acc.1 (fun j hj => (HX.out.acc.lt j hj).2) fun j j1 j2 => Below.heap_setCell _ _ _ _ (by show j ≠ w.heap.size; omega))
      refine bodyPost_ret (v := .agg #[.slice A k ca]) (by simp [results, Try.results110, go_sem, r0]) rfl ⟨_, rfl, ?_, ?_⟩
      · exact HNO.mono (Nat.le_succ _)
      · exact hB.setCell (Nat.le_refl _) _

def rowT (T y lo : Nat) : Nat → Nat
  | 0 => T
  | j + 1 => rowT T y lo j ||| 2 ^ cix (lo + j) y
def dT (n : Nat) : Nat → Nat
  | 0 => 0
  | y + 1 => rowT (dT n y) y (dLo n y) (dHi n y - dLo n y)
theorem rowT_lt {T y lo : Nat} (hT : T < 18446744073709551616) (hy : y ≤ 7) : ∀ j, lo + j ≤ 8 → rowT T y lo j < 18446744073709551616
  | 0, _ => hT
  | j + 1, h => with_lt (rowT_lt hT hy j (by omega)) (by unfold cix; omega)
theorem dT_lt {n : Nat} (hn : n ≤ 4) : ∀ y, y ≤ 2 * n → dT n y < 18446744073709551616
  | 0, _ => by simp [dT]
  | y + 1, h => by
    obtain ⟨h1, h2⟩ := d_facts hn (show y < 2 * n by omega)
    exact rowT_lt (dT_lt hn y (by omega)) (by omega) _ (by omega)
theorem diam_tab : ((List.range 5).all fun n => n == 0 || rofTo (dT n (2 * n)) (2 * n) == diamZ n) = true := by decide +kernel
theorem diam_same {n : Nat} (hn : 1 ≤ n ∧ n ≤ 4) : rofTo (dT n (2 * n)) (2 * n) = diamZ n := by
  have h := diam_tab
  rw [List.all_eq_true] at h
  have h := h n (by simp; omega)
  have h1 : (n == 0) = false := by simp; omega
  rw [h1] at h
  simpa using h

set_option maxRecDepth 100000 in
set_option maxHeartbeats 4000000 in
theorem Diamond_yes (n : Nat) (hn : 1 ≤ n ∧ n ≤ 4) (w : World) :
    Calls Try.prog 38 #[.int .i64 (n : Int)] w fun e w' => ∃ u, e = .returned (.agg #[u]) ∧ RdI w' w'.heap.size u (diamZ n) ∧ Below w.heap.size w w' := by
  have t1 : inB (n : Int) 1 4 = true := inB_true (by omega) (by omega)
  have HDF := Lib.hid (fun y hy => d_facts (n := n) (y := y) hn.2 hy)
  have HDT : Hid (∀ k, dT n (k + 1) = rowT (dT n k) k (dLo n k) (dHi n k - dLo n k)) := fun k => rfl
  have HDL := Lib.hid (fun y hy => dT_lt hn.2 (n := n) y hy)
  have HD0 : Hid (dT n 0 = 0) := rfl
  have HZ := Lib.hid (diam_same hn)
  obtain ⟨st, HST⟩ : ∃ st, Hid (st = dT n) := ⟨_, rfl⟩
  rw [← HST.out] at HDT HDL HD0 HZ
  obtain ⟨N, HN⟩ : ∃ N, Hid (N = 2 * n) := ⟨_, rfl⟩
  have hN : 2 * (n : Int) = (N : Int) := by have := HN.out; omega
  rw [← HN.out] at HZ
  have hN8 : N ≤ 8 := by have := HN.out; omega
  rw [← HZ.out]
  obtain ⟨W, hW, k1, hbW⟩ := one_alloc w (.cells #[.slice none 0 0] 51)
  have HW := Lib.hid hW
  have HK1 := Lib.hid k1
  have HBW := Lib.hid hbW
  clear HST hW k1 hbW HZ
  go_enter Try.func38, Try.ntmps38
  go_wp2_with fail
  rw [← HW.out]
  refine (within_any _ _ _ _).mono ?_
  rintro e w' ⟨rfl, hb0⟩
  obtain rfl := hb0
  rw [t1]
  go_wp2_with fail
  go_loopw [3, 14] (fun sv i wr => ∃ (k : Nat), k ≤ N ∧ i = .int .i64 k ∧ sv = .int .u64 (st k : Nat) ∧ Hid (Below w.heap.size w wr) ∧ Hid (wr.heap[w.heap.size]? = some (.cells #[.slice none 0 0] 51 (0, 0)))) (fun _ i _ => N - (intOf i).toNat)
  case atStart => exact ⟨0, Nat.zero_le _, rfl, by rw [HD0.out]; rfl, HBW, HK1⟩
  case round =>
    obtain ⟨k, hk, rfl, rfl, HB, HK⟩ := hrel
    by_cases hlt : k < N
    · have ht : decide ((k : Int) < (N : Int)) = true := by simp only [decide_eq_true_eq]; omega
      have hlo := (HDF.out k (by have := HN.out; omega)).1
      have hhi := (HDF.out k (by have := HN.out; omega)).2
      have HNX := Lib.hid (HDT.out k)
      have HSL := Lib.hid (HDL.out k (by have := HN.out; omega))
      obtain ⟨lo, HLO⟩ : ∃ lo, Hid (dLo n k = lo) := ⟨_, rfl⟩
      obtain ⟨hi, HHI⟩ : ∃ hi, Hid (dHi n k = hi) := ⟨_, rfl⟩
      rw [HLO.out, HHI.out] at hlo
      rw [HHI.out] at hhi
      rw [HLO.out, HHI.out] at HNX
      have hk8 : k ≤ 7 := by omega
      obtain ⟨S, HSE⟩ : ∃ S, Hid (st k = S) := ⟨_, rfl⟩
      rw [HSE.out] at HNX HSL ⊢
      by_cases hkn : k < n
      · have hc : decide ((k : Int) ≥ (n : Int)) = false := by simp only [decide_eq_false_iff_not]; omega
        have hc' : decide (n ≤ k) = false := by simp only [decide_eq_false_iff_not]; omega
        have e1 : (n : Int) - 1 - (k : Int) = (lo : Int) := by have := HLO.out; unfold dLo at this; rw [if_pos hkn] at this; omega
        have e2 : (n : Int) + (k : Int) = (hi : Int) - 1 := by have := HHI.out; unfold dHi at this; rw [if_pos hkn] at this; omega
        go_wp2_with fail
        go_loopw [3, 7] (fun sv xv wr2 => ∃ j : Nat, lo + j ≤ hi ∧ xv = .int .i64 ((lo + j : Nat) : Int) ∧ sv = .int .u64 (rowT S k lo j : Nat) ∧ Hid (Below w.heap.size w wr2) ∧ Hid (wr2.heap[w.heap.size]? = some (.cells #[.slice none 0 0] 51 (0, 0)))) (fun _ xv _ => hi - (intOf xv).toNat)
        case atStart => exact ⟨0, by omega, by simp, rfl, HB, HK⟩
        case round =>
          obtain ⟨j, hj, rfl, rfl, HB2, HK2⟩ := hrel
          by_cases hjl : lo + j < hi
          · have hx7 : lo + j ≤ 7 := by omega
            have hle : decide (((lo + j : Nat) : Int) ≤ ((hi : Int) - 1)) = true := by simp only [decide_eq_true_eq]; omega
            have hle2 : ((lo + j : Nat) : Int) ≤ ((hi : Int) - 1) := by omega
            have HRT : Hid (rowT S k lo (j + 1) = rowT S k lo j ||| 2 ^ cix (lo + j) k) := rfl
            have HRL : Hid (rowT S k lo j < 18446744073709551616) := rowT_lt HSL.out (by omega) j (by omega)
            have HWY := Lib.hid (fun V => with_yes (rowT S k lo j) (lo + j) k HRL.out hx7 (by omega) V)
            rw [← HRT.out] at HWY
            obtain ⟨xx, HXX⟩ : ∃ xx, Hid (lo + j = xx) := ⟨_, rfl⟩
            rw [HXX.out] at hle hle2 HWY ⊢
            obtain ⟨R1, HR1⟩ : ∃ R1, Hid (rowT S k lo (j + 1) = R1) := ⟨_, rfl⟩
            rw [HR1.out] at HWY
            generalize rowT S k lo j = R0 at *
            have hxx : xx ≤ 7 := by have := HXX.out; omega
            go_wp2_with fail
            refine (HWY.out _).mono ?_
            rintro e w9 ⟨rfl, hb9⟩
            have HB9 := Lib.hid (HB2.out.trans (hb9.mono HB2.out.size))
            have HK9 := Lib.hid (blk_below HK2.out hb9)
            clear hb9
            go_wp2_with fail
            go_roundw
            case rel => exact ⟨j + 1, by omega, by have := HXX.out; go_num, by rw [HR1.out], HB9, HK9⟩
            case measure => have := HXX.out; simp [intOf]; omega
          · have hle : decide (((lo + j : Nat) : Int) ≤ ((hi : Int) - 1)) = false := by simp only [decide_eq_false_iff_not]; omega
            have hle2 : ¬ ((lo + j : Nat) : Int) ≤ ((hi : Int) - 1) := by omega
            have HE : Hid (st (k + 1) = rowT S k lo j) := by unfold Hid; rw [HNX.out, show hi - lo = j by omega]
            generalize rowT S k lo j = R0 at *
            obtain ⟨xx, HXX⟩ : ∃ xx, Hid (lo + j = xx) := ⟨_, rfl⟩
            rw [HXX.out] at hle hle2 ⊢
            go_wp2_with fail
            go_roundw
            case rel => exact ⟨k + 1, by omega, by go_num, by rw [HE.out], HB2, HK2⟩
            case measure => simp [intOf]; omega
      · have hc : decide ((k : Int) ≥ (n : Int)) = true := by simp only [decide_eq_true_eq]; omega
        have hc' : decide (n ≤ k) = true := by simp only [decide_eq_true_eq]; omega
        have e1 : (k : Int) - (n : Int) = (lo : Int) := by have := HLO.out; unfold dLo at this; rw [if_neg hkn] at this; omega
        have e2 : 3 * (n : Int) - 1 - (k : Int) = (hi : Int) - 1 := by have := HHI.out; unfold dHi at this; rw [if_neg hkn] at this; omega
        go_wp2_with fail
        go_loopw [3, 7] (fun sv xv wr2 => ∃ j : Nat, lo + j ≤ hi ∧ xv = .int .i64 ((lo + j : Nat) : Int) ∧ sv = .int .u64 (rowT S k lo j : Nat) ∧ Hid (Below w.heap.size w wr2) ∧ Hid (wr2.heap[w.heap.size]? = some (.cells #[.slice none 0 0] 51 (0, 0)))) (fun _ xv _ => hi - (intOf xv).toNat)
        case atStart => exact ⟨0, by omega, by simp, rfl, HB, HK⟩
        case round =>
          obtain ⟨j, hj, rfl, rfl, HB2, HK2⟩ := hrel
          by_cases hjl : lo + j < hi
          · have hx7 : lo + j ≤ 7 := by omega
            have hle : decide (((lo + j : Nat) : Int) ≤ ((hi : Int) - 1)) = true := by simp only [decide_eq_true_eq]; omega
            have hle2 : ((lo + j : Nat) : Int) ≤ ((hi : Int) - 1) := by omega
            have HRT : Hid (rowT S k lo (j + 1) = rowT S k lo j ||| 2 ^ cix (lo + j) k) := rfl
            have HRL : Hid (rowT S k lo j < 18446744073709551616) := rowT_lt HSL.out (by omega) j (by omega)
            have HWY := Lib.hid (fun V => with_yes (rowT S k lo j) (lo + j) k HRL.out hx7 (by omega) V)
            rw [← HRT.out] at HWY
            obtain ⟨xx, HXX⟩ : ∃ xx, Hid (lo + j = xx) := ⟨_, rfl⟩
            rw [HXX.out] at hle hle2 HWY ⊢
            obtain ⟨R1, HR1⟩ : ∃ R1, Hid (rowT S k lo (j + 1) = R1) := ⟨_, rfl⟩
            rw [HR1.out] at HWY
            generalize rowT S k lo j = R0 at *
            have hxx : xx ≤ 7 := by have := HXX.out; omega
            go_wp2_with fail
            refine (HWY.out _).mono ?_
            rintro e w9 ⟨rfl, hb9⟩
            have HB9 := Lib.hid (HB2.out.trans (hb9.mono HB2.out.size))
            have HK9 := Lib.hid (blk_below HK2.out hb9)
            clear hb9
            go_wp2_with fail
            go_roundw
            case rel => exact ⟨j + 1, by omega, by have := HXX.out; go_num, by rw [HR1.out], HB9, HK9⟩
            case measure => have := HXX.out; simp [intOf]; omega
          · have hle : decide (((lo + j : Nat) : Int) ≤ ((hi : Int) - 1)) = false := by simp only [decide_eq_false_iff_not]; omega
            have hle2 : ¬ ((lo + j : Nat) : Int) ≤ ((hi : Int) - 1) := by omega
            have HE : Hid (st (k + 1) = rowT S k lo j) := by unfold Hid; rw [HNX.out, show hi - lo = j by omega]
            generalize rowT S k lo j = R0 at *
            obtain ⟨xx, HXX⟩ : ∃ xx, Hid (lo + j = xx) := ⟨_, rfl⟩
            rw [HXX.out] at hle hle2 ⊢
            go_wp2_with fail
            go_roundw
            case rel => exact ⟨k + 1, by omega, by go_num, by rw [HE.out], HB2, HK2⟩
            case measure => simp [intOf]; omega
    · obtain rfl : k = N := by omega
      have ht : decide ((k : Int) < (k : Int)) = false := by simp
      have HSL := Lib.hid (HDL.out k (by have := HN.out; omega))
      have HRO := Lib.hid (fun V => regionOf_any (st k) k HSL.out hN8 V)
      have HQQ := Lib.hid (show (0 : Nat) ≤ 0 from Nat.le_refl _)
      obtain ⟨S, HSE⟩ : ∃ S, Hid (st k = S) := ⟨_, rfl⟩
      rw [HSE.out] at HRO ⊢
      obtain ⟨zs, HZS⟩ : ∃ zs, Hid (rofTo S k = zs) := ⟨_, rfl⟩
      rw [HZS.out] at HRO
      go_wp2_with fail
      refine (HRO.out _).mono ?_
      rintro e w9 ⟨u9, rfl, ho9, hb9⟩
      obtain ⟨A9, c9, hv9, _⟩ := ho9.rd
      subst hv9
      have hl := lt_of_block HK.out
      have hk9 := blk_below HK.out hb9
      have c0 := cell_of_one hk9
      have f0 := free_of_one hk9
      have HB9 := Lib.hid (HB.out.trans (hb9.mono HB.out.size))
      have hlt9 := ho9.lt
      have hk10 : (w9.setCell ⟨w.heap.size, 0, none⟩ (.slice A9 zs.length c9)).heap[w.heap.size]? = some (.cells #[.slice A9 zs.length c9] 51 (0, 0)) := (blk_setCell hk9 _).trans (by simp)
      have r0 : (w9.setCell ⟨w.heap.size, 0, none⟩ (.slice A9 zs.length c9)).cell? ⟨w.heap.size, 0, none⟩ = some (.slice A9 zs.length c9) := cell_of_one hk10
      have HNO : OwnI (w9.setCell ⟨w.heap.size, 0, none⟩ (.slice A9 zs.length c9)) wr.heap.size (.slice A9 zs.length c9) zs :=
        ownF_int.1 (OwnF.same (ownF_int.2 ho9) fun j hj => Below.heap_setCell _ _ _ _ (by have := (hlt9 j hj).1; show j ≠ w.heap.size; omega))
      have HR0 := Lib.hid r0
      have HNO2 := Lib.hid HNO
      have HBX : Hid (Below w.heap.size w (w9.setCell ⟨w.heap.size, 0, none⟩ (.slice A9 zs.length c9))) := HB9.out.setCell (Nat.le_refl _) _
      clear r0 HNO hk10 hlt9 ho9 hb9 hk9
      go_wp2_with fail
      have r0 := HR0.out
      refine bodyPost_ret (v := .agg #[.slice A9 zs.length c9]) (by simp [results, Try.results38, go_sem, r0]) rfl ⟨_, rfl, ?_, ?_⟩
      · rw [HSE.out, HZS.out]; exact HNO2.out.rd
      · exact HBX.out
end Go.Proofs.Ytiecphhenpapoaa
