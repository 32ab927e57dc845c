/- Rectangles, of the program and of the reference. -/
import Derived.Test.YtiecphhenpapoaaTile
import Derived.Test.YtiecphhenpapoaaOwnM
import Derived.Deep.RegionLaw
namespace Go.Proofs.Ytiecphhenpapoaa
open Go.RowKit
set_option linter.unusedVariables false

/-- The rows of a rectangle. -/
def rectZ (a b : Nat) : List Int := List.replicate b (((2 ^ a - 1 : Nat) : Int))
theorem rectZ_ok (a b : Nat) (ha : a ≤ 8) (hb : b ≤ 8) : regOkB (rectZ a b) = true := by
  unfold regOkB rectZ allB
  have h : 2 ^ a ≤ 2 ^ 8 := Nat.pow_le_pow_right (by omega) ha
  simp only [List.length_replicate, Bool.and_eq_true, decide_eq_true_eq, List.all_eq_true, inB_iff, List.mem_replicate]
  refine ⟨hb, ?_⟩
  rintro x ⟨_, rfl⟩
  omega
/-- While it is built: the result's cell, the region's cell. -/
structure RBld (w : World) (wr : World) (v : Value) (zs : List Int) : Prop where
  c0 : wr.heap[w.heap.size]? = some (.cells #[.slice none 0 0] 51 (0, 0))
  c1 : wr.heap[w.heap.size + 1]? = some (.cells #[v] 51 (0, 0))
  acc : Acc elInt w (w.heap.size + 2) wr v zs
theorem RBld.push {w wr w2 : World} {v v' : Value} {zs zs' : List Int} (h : RBld w wr v zs) (HA : Hid (Acc elInt w (w.heap.size + 2) w2 v' zs')) (HG : Hid (Grew wr.drew w2 v v')) :
    (∃ u, w2.heap[w.heap.size + 1]? = some (.cells #[u] 51 (0, 0))) ∧ RBld w (w2.setCell ⟨w.heap.size + 1, 0, none⟩ v') v' zs' := by
  have hl0 := lt_of_block h.c0
  have hl1 := lt_of_block h.c1
  have hne : ∀ k, k < w.heap.size + 2 → v.ownBlock ≠ some k := fun k hk e => by have := (h.acc.lt k e).1; omega
  have hkeep : ∀ k, k < wr.heap.size → k < w.heap.size + 2 → w2.heap[k]? = wr.heap[k]? := fun k h1 h2 => by
    rw [HG.out.1.block k h1 (fun e => hne k h2 e.symm)]; rfl
  have k0 := (hkeep _ hl0 (by omega)).trans h.c0
  have k1 := (hkeep _ hl1 (by omega)).trans h.c1
  refine ⟨⟨v, k1⟩, (Below.heap_setCell _ _ _ _ (by simp)).trans k0, (blk_setCell k1 _).trans (by simp), ?_⟩
  obtain ⟨a1, a2, a3, a4⟩ := HA.out
  refine ⟨ownsRow_keep (hi := w2.heap.size) a1 (fun k hk => (a1.lt k hk).2) fun k k1 k2 => Below.heap_setCell _ _ _ _ (by show k ≠ w.heap.size + 1; omega), a2.setCell (by show w.heap.size ≤ w.heap.size + 1; omega) _, a3, by simpa using a4⟩

set_option maxRecDepth 100000 in
set_option maxHeartbeats 2000000 in
theorem Rectangle_yes (a b : Nat) (ha : 1 ≤ a ∧ a ≤ 8) (hb : 1 ≤ b ∧ b ≤ 8) (w : World) :
    Calls Try.prog 69 #[.int .i64 (a : Int), .int .i64 (b : Int)] w fun e w' => ∃ u, e = .returned (.agg #[u]) ∧ RdI w' w'.heap.size u (rectZ a b) ∧ Below w.heap.size w w' := by
  have t1 : inB (a : Int) 1 8 = true := inB_true (by omega) (by omega)
  have t2 : inB (b : Int) 1 8 = true := inB_true (by omega) (by omega)
  have h8 : 2 ^ a ≤ 2 ^ 8 := Nat.pow_le_pow_right (by omega) ha.2
  obtain ⟨q, HQ⟩ : ∃ q : Nat, Hid (2 ^ a = q + 1) := ⟨2 ^ a - 1, by unfold Hid; have : 0 < 2 ^ a := Nat.pos_of_ne_zero (by simp); omega⟩
  have HZ : Hid (rectZ a b = List.replicate b (q : Int)) := by unfold Hid rectZ; rw [HQ.out]; rfl
  rw [HQ.out] at h8
  have hw1 : IntKind.i64.wrap ((2 : Int) ^ a) = (q : Int) + 1 := by
    have : ((2 : Int) ^ a) = ((2 ^ a : Nat) : Int) := by simp
    rw [this, HQ.out]
    exact IntWalk.i64_in _ (by omega)
  have hw2 : IntKind.i64.wrap (q : Int) = (q : Int) := IntWalk.i64_in _ (by omega)
  go_enter Try.func69, Try.ntmps69
  go_wp2_with fail
  refine (within_any _ _ _ _).mono ?_
  rintro e w' ⟨rfl, rfl⟩
  rw [t1]
  go_wp2_with fail
  refine (within_any _ _ _ _).mono ?_
  rintro e w' ⟨rfl, rfl⟩
  rw [t2]
  go_wp2_with fail
  obtain ⟨W, hW, k1, k2, hbW⟩ := two_alloc w (.cells #[.slice none 0 0] 51) (.cells #[.slice none 0 0] 51)
  rw [← hW]
  have HR : Hid (RBld w W (.slice none 0 0) []) := ⟨k1, k2, ⟨OwnF.nil, hbW, by omega, by rw [hW]; simp⟩⟩
  clear hW k1 k2 hbW
  go_loopw [17] (fun i wr => ∃ (k : Nat) (v : Value), k ≤ b ∧ i = .int .i64 k ∧ Hid (RBld w wr v (List.replicate k (q : Int)))) (fun i _ => b - (intOf i).toNat)
  case atStart => exact ⟨0, _, Nat.zero_le _, rfl, HR⟩
  case round =>
    obtain ⟨k, v, hk, rfl, HR⟩ := hrel
    obtain ⟨A, ca, hv, q1, q2, _⟩ := HR.out.acc.1.rd okInt
    rw [List.length_replicate] at hv q1
    subst hv
    unfold maxLen at q2
    have c1 := cell_of_one HR.out.c1
    by_cases hlt : k < b
    · have HA := Lib.hid (HR.out.acc.below ((Below.refl wr.heap.size wr).drew))
      have c1b : (wr.alloc (.cells #[.int .i64 (q : Int)] 3)).cell? ⟨w.heap.size + 1, 0, none⟩ = some (.slice A k ca) := (((Below.refl wr.heap.size wr).alloc (Nat.le_refl _) _).cell (p := ⟨w.heap.size + 1, 0, none⟩) (lt_of_block HR.out.c1)).trans c1
      go_wp2_with fail
      go_region_law (refine step_push (wr := wr.drew) okInt (by rfl) _ _ (by rfl) HA.out (by rfl) (q : Int) _ (by rfl) wr.heap.size (by rfl) (by simp) (by simp; omega) ?_; intro v' w2 HA2 HG2; obtain ⟨A2, ca2, hv2, _⟩ := HA2.out.1.rd okInt; rw [show (List.replicate k (q : Int) ++ [(q : Int)]).length = k + 1 by simp] at hv2; rw [hv2] at HA2 HG2; rw [hv2]; clear hv2; obtain ⟨⟨u9, hk9⟩, hB9⟩ := HR.out.push HA2 HG2; have ck := cell_of_one hk9; have fk := free_of_one hk9; have HB9 := Lib.hid hB9; clear hB9 hk9)
      all_goals
        go_wp2_with fail
        go_roundw
        case rel => exact ⟨k + 1, _, by omega, by go_num, by (unfold Hid; rw [List.replicate_succ']; exact HB9.out)⟩
        case measure => simp [intOf]; omega
    · obtain rfl : k = b := by omega
      have c0 := cell_of_one HR.out.c0
      have f0 := free_of_one HR.out.c0
      have HX := Lib.hid HR.out
      go_wp2_with fail
      have hl0 := lt_of_block HX.out.c0
      have hB := HX.out.acc.2.1
      have k9 : (wr.setCell ⟨w.heap.size, 0, none⟩ (.slice A k ca)).heap[w.heap.size]? = some (.cells #[.slice A k ca] 51 (0, 0)) := (blk_setCell HX.out.c0 _).trans (by simp)
      have r0 : (wr.setCell ⟨w.heap.size, 0, none⟩ (.slice A k ca)).cell? ⟨w.heap.size, 0, none⟩ = some (.slice A k ca) := cell_of_one k9
      have HN : OwnI (wr.setCell ⟨w.heap.size, 0, none⟩ (.slice A k ca)) (w.heap.size + 2) (.slice A k ca) (List.replicate k (q : Int)) :=
        ownF_int.1 (ownsRow_keep (hi := wr.heap.size) HX.out.acc.1 (fun j hj => (HX.out.acc.lt j hj).2) fun j j1 j2 => Below.heap_setCell _ _ _ _ (by show j ≠ w.heap.size; omega))
      refine bodyPost_ret (v := .agg #[.slice A k ca]) (by simp [results, Try.results69, go_sem, r0]) rfl ⟨_, rfl, ?_, ?_⟩
      · rw [HZ.out]; exact HN.rd
      · exact hB.setCell (Nat.le_refl _) _
end Go.Proofs.Ytiecphhenpapoaa

namespace Go.Proofs.Ytiecphhenpapoaa
open Go.RowKit
set_option linter.unusedVariables false

set_option maxRecDepth 100000 in
set_option maxHeartbeats 2000000 in
theorem specRectangle_yes (a b : Nat) (ha : 1 ≤ a ∧ a ≤ 8) (hb : 1 ≤ b ∧ b ≤ 8) (w : World) :
    Calls Try.prog 75 #[.int .i64 (a : Int), .int .i64 (b : Int)] w fun e w' => ∃ u, e = .returned (.agg #[u]) ∧ RdI w' w'.heap.size u (rectZ a b) ∧ Below w.heap.size w w' := by
  have t1 : inB (a : Int) 1 8 = true := inB_true (by omega) (by omega)
  have t2 : inB (b : Int) 1 8 = true := inB_true (by omega) (by omega)
  have h8 : 2 ^ a ≤ 2 ^ 8 := Nat.pow_le_pow_right (by omega) ha.2
  obtain ⟨q, HQ⟩ : ∃ q : Nat, Hid (2 ^ a = q + 1) := ⟨2 ^ a - 1, by unfold Hid; have : 0 < 2 ^ a := Nat.pos_of_ne_zero (by simp); omega⟩
  have HZ : Hid (rectZ a b = List.replicate b (q : Int)) := by unfold Hid rectZ; rw [HQ.out]; rfl
  rw [HQ.out] at h8
  have hw1 : IntKind.i64.wrap ((2 : Int) ^ a) = (q : Int) + 1 := by
    have : ((2 : Int) ^ a) = ((2 ^ a : Nat) : Int) := by simp
    rw [this, HQ.out]
    exact IntWalk.i64_in _ (by omega)
  have hw2 : IntKind.i64.wrap (q : Int) = (q : Int) := IntWalk.i64_in _ (by omega)
  go_enter Try.func75, Try.ntmps75
  go_wp2_with fail
  obtain ⟨W, hW, k1, k2, hbW⟩ := two_alloc w (.cells #[.slice none 0 0] 51) (.cells #[.slice none 0 0] 51)
  rw [← hW]
  have HR : Hid (RBld w W (.slice none 0 0) []) := ⟨k1, k2, ⟨OwnF.nil, hbW, by omega, by rw [hW]; simp⟩⟩
  clear hW k1 k2 hbW
  go_loopw [6] (fun i wr => ∃ (k : Nat) (v : Value), k ≤ b ∧ i = .int .i64 k ∧ Hid (RBld w wr v (List.replicate k (q : Int)))) (fun i _ => b - (intOf i).toNat)
  case atStart => exact ⟨0, _, Nat.zero_le _, rfl, HR⟩
  case round =>
    obtain ⟨k, v, hk, rfl, HR⟩ := hrel
    obtain ⟨A, ca, hv, q1, q2, _⟩ := HR.out.acc.1.rd okInt
    rw [List.length_replicate] at hv q1
    subst hv
    unfold maxLen at q2
    have c1 := cell_of_one HR.out.c1
    by_cases hlt : k < b
    · have HA := Lib.hid (HR.out.acc.below ((Below.refl wr.heap.size wr).drew))
      have c1b : (wr.alloc (.cells #[.int .i64 (q : Int)] 3)).cell? ⟨w.heap.size + 1, 0, none⟩ = some (.slice A k ca) := (((Below.refl wr.heap.size wr).alloc (Nat.le_refl _) _).cell (p := ⟨w.heap.size + 1, 0, none⟩) (lt_of_block HR.out.c1)).trans c1
      have ht : decide ((k : Int) < (b : Int)) = true := by simp only [decide_eq_true_eq]; omega
      go_wp2_with fail
      refine (l01In_any _ _ _ _).mono ?_
      rintro e w' ⟨rfl, rfl⟩
      rw [t1]
      go_wp2_with fail
      refine (l01In_any _ _ _ _).mono ?_
      rintro e w' ⟨rfl, rfl⟩
      rw [t2]
      go_wp2_with fail
      go_region_law (refine step_push (wr := wr.drew) okInt (by rfl) _ _ (by rfl) HA.out (by rfl) (q : Int) _ (by rfl) wr.heap.size (by rfl) (by simp) (by simp; omega) ?_; intro v' w2 HA2 HG2; obtain ⟨A2, ca2, hv2, _⟩ := HA2.out.1.rd okInt; rw [show (List.replicate k (q : Int) ++ [(q : Int)]).length = k + 1 by simp] at hv2; rw [hv2] at HA2 HG2; rw [hv2]; clear hv2; obtain ⟨⟨u9, hk9⟩, hB9⟩ := HR.out.push HA2 HG2; have ck := cell_of_one hk9; have fk := free_of_one hk9; have HB9 := Lib.hid hB9; clear hB9 hk9)
      all_goals
        go_wp2_with fail
        go_roundw
        case rel => exact ⟨k + 1, _, by omega, by go_num, by (unfold Hid; rw [List.replicate_succ']; exact HB9.out)⟩
        case measure => simp [intOf]; omega
    · obtain rfl : k = b := by omega
      have ht : decide ((k : Int) < (k : Int)) = false := by simp
      have c0 := cell_of_one HR.out.c0
      have f0 := free_of_one HR.out.c0
      have HX := Lib.hid HR.out
      go_wp2_with fail
      have hl0 := lt_of_block HX.out.c0
      have hB := HX.out.acc.2.1
      have k9 : (wr.setCell ⟨w.heap.size, 0, none⟩ (.slice A k ca)).heap[w.heap.size]? = some (.cells #[.slice A k ca] 51 (0, 0)) := (blk_setCell HX.out.c0 _).trans (by simp)
      have r0 : (wr.setCell ⟨w.heap.size, 0, none⟩ (.slice A k ca)).cell? ⟨w.heap.size, 0, none⟩ = some (.slice A k ca) := cell_of_one k9
      have HN : OwnI (wr.setCell ⟨w.heap.size, 0, none⟩ (.slice A k ca)) (w.heap.size + 2) (.slice A k ca) (List.replicate k (q : Int)) :=
        ownF_int.1 (ownsRow_keep (hi := wr.heap.size) HX.out.acc.1 (fun j hj => (HX.out.acc.lt j hj).2) fun j j1 j2 => Below.heap_setCell _ _ _ _ (by show j ≠ w.heap.size; omega))
      refine bodyPost_ret (v := .agg #[.slice A k ca]) (by simp [results, Try.results75, go_sem, r0]) rfl ⟨_, rfl, ?_, ?_⟩
      · rw [HZ.out]; exact HN.rd
      · exact hB.setCell (Nat.le_refl _) _
end Go.Proofs.Ytiecphhenpapoaa
