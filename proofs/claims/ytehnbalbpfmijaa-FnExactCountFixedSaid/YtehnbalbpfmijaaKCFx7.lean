/- What the claim's walk rests on: parts Tile, RectI, Num, SDom. -/
import Derived.Test.YtehnbalbpfmijaaPartialKCFx
import Derived.Test.YtehnbalbpfmijaaOwnMKCFx
import Derived.Deep.RegionLaw
import Derived.Deep.Cut
namespace Go.Proofs.Ytehnbalbpfmijaa
open Go.RowKit
set_option linter.unusedVariables false

def tileB (R : Nat) (ls : List Lk) : Bool := partB R ls && (covTo ls ls.length == R)
/-- One slice in a cell of its own, in a world that grows. -/
abbrev OneS (V w' : World) (a : Nat) (u : Value) : Prop := w'.cell? ⟨a, 0, none⟩ = some u ∧ V.heap.size ≤ w'.heap.size ∧ Below V.heap.size V w'
theorem OneS.keep {V W0 w1 : World} {a : Nat} {u : Value} (hb : Below W0.heap.size W0 w1) (ha : a < V.heap.size) (h : OneS V W0 a u) : OneS V w1 a u := by
  obtain ⟨h1, h7, h8⟩ := h
  exact ⟨(hb.cell (by simp; omega)).trans h1, Nat.le_trans h7 hb.size, h8.trans (hb.mono h7)⟩
theorem OneS.drew {V W0 : World} {a : Nat} {u : Value} (h : OneS V W0 a u) : OneS V W0.drew a u := ⟨h.1, h.2.1, h.2.2.drew⟩

set_option maxRecDepth 100000 in
set_option maxHeartbeats 4000000 in
theorem IsTiling_yes (u v : Value) (zs : List Int) (ls : List Lk) (B : Nat) (w : World) (hu : RdI w B u zs) (h : RdF elDomino w B v ls) (hB : B ≤ w.heap.size) (hok : regOkB zs = true) :
    Calls Try.prog 71 #[.agg #[u], v] w fun e w' => e = .returned (.bool (tileB (setZ zs) ls)) ∧ Below w.heap.size w w' := by
  have HU := Lib.hid hu
  have HV := Lib.hid h
  obtain ⟨A0, c0, rfl, g10, g20, _⟩ := hu
  unfold maxLen at g20
  clear h
  have HOK := Lib.hid hok
  clear hok
  obtain ⟨W, hW, k1, hb⟩ := one_alloc w (.cells #[.slice A0 zs.length c0] 39)
  have HW := Lib.hid hW
  have HB := Lib.hid hb
  have HT0 : Hid (OneS W W w.heap.size (.slice A0 zs.length c0)) := ⟨by rw [blk_cell k1]; rfl, Nat.le_refl _, Below.refl _ _⟩
  have L1 := Lib.hid (lt_of_block k1)
  clear hW k1 hb
  cases hp : partB (setZ zs) ls
  · have HF : Hid (false = tileB (setZ zs) ls) := by unfold Hid tileB; rw [hp]; rfl
    have HPB := Lib.hid hp
    clear hp
    go_enter Try.func71, Try.ntmps71
    go_wp2_with fail
    rw [← HW.out]
    refine wp_region_held_drew (S := fun w' => OneS W w' w.heap.size (.slice A0 zs.length c0)) (by kernel_rfl) (by exact HT0.out.drew) (fun hHeld => ?_)
    refine wpAnyH_take (i := 0) (oi := ⟨_, _, _, _, _, _⟩) (v := ?vap6027q0) rfl (by kernel_rfl) (by kernel_rfl) (by kernel_rfl) (fun _ _ _ h => h) (Or.inl ⟨by rfl, ?hap6027q0⟩) (by assumption) ?_
    case hap6027q0 => (intro w hSw; (try dsimp only at hSw); go_simp; try with_reducible rfl)
    try simp only [Act.put, List.setIfInBounds_toArray, List.set_cons_zero, List.set_cons_succ]
    refine wpAnyH_take (i := 1) (oi := ⟨_, _, _, _, _, _⟩) (v := ?vap6027q1) rfl (by kernel_rfl) (by kernel_rfl) (by kernel_rfl) (fun _ _ _ h => h) (Or.inl ⟨by rfl, ?hap6027q1⟩) (by assumption) ?_
    case hap6027q1 => (intro w hSw; (try dsimp only at hSw); go_simp; try with_reducible rfl)
    try simp only [Act.put, List.setIfInBounds_toArray, List.set_cons_zero, List.set_cons_succ]
    refine wpAnyH_ready (rs := [2]) (by kernel_rfl) (by simp) ?_
    refine AllReadyH.cons (o := ⟨_, _, _, _, _, _⟩) rfl (fun K hK => ?_) AllReadyH.nil
    go_simp; go_at_call 134; refine (IsPartial_yes _ _ zs ls B _ (HU.out.below ((HB.out.trans (hHeld.2.2.mono HB.out.size)).mono hB)) (HV.out.below ((HB.out.trans (hHeld.2.2.mono HB.out.size)).mono hB)) (Nat.le_trans hB (Nat.le_trans HB.out.size hHeld.2.1)) HOK.out).mono ?_; rintro e w3 ⟨rfl, hb3⟩; rw [HPB.out]
    refine hK.out _ _ (by exact OneS.keep hb3 L1.out (by assumption)) (fun hHeld => ?_)
    clear hK K
    try simp only [Act.put, List.setIfInBounds_toArray, List.set_cons_zero, List.set_cons_succ]
    refine wpAnyH_take (i := 3) (oi := ⟨_, _, _, _, _, _⟩) (v := ?vap6027q3) rfl (by kernel_rfl) (by kernel_rfl) (by kernel_rfl) (fun _ _ _ h => h) (Or.inl ⟨by rfl, ?hap6027q3⟩) (by assumption) ?_
    case hap6027q3 => (intro w hSw; (try dsimp only at hSw); go_simp; try with_reducible rfl)
    try simp only [Act.put, List.setIfInBounds_toArray, List.set_cons_zero, List.set_cons_succ]
    refine wpAnyH_take (i := 4) (oi := ⟨_, _, _, _, _, _⟩) (v := undef) rfl (by kernel_rfl) (by kernel_rfl) (by kernel_rfl) (fun _ _ _ h => h) (Or.inr ⟨by rfl, rfl⟩) (by assumption) ?_
    try simp only [Act.put, List.setIfInBounds_toArray, List.set_cons_zero, List.set_cons_succ]
    refine wpAnyH_take (i := 5) (oi := ⟨_, _, _, _, _, _⟩) (v := undef) rfl (by kernel_rfl) (by kernel_rfl) (by kernel_rfl) (fun _ _ _ h => h) (Or.inr ⟨by rfl, rfl⟩) (by assumption) ?_
    try simp only [Act.put, List.setIfInBounds_toArray, List.set_cons_zero, List.set_cons_succ]
    refine wpAnyH_take (i := 6) (oi := ⟨_, _, _, _, _, _⟩) (v := undef) rfl (by kernel_rfl) (by kernel_rfl) (by kernel_rfl) (fun _ _ _ h => h) (Or.inr ⟨by rfl, rfl⟩) (by assumption) ?_
    try simp only [Act.put, List.setIfInBounds_toArray, List.set_cons_zero, List.set_cons_succ]
    refine wpAnyH_take (i := 7) (oi := ⟨_, _, _, _, _, _⟩) (v := undef) rfl (by kernel_rfl) (by kernel_rfl) (by kernel_rfl) (fun _ _ _ h => h) (Or.inr ⟨by rfl, rfl⟩) (by assumption) ?_
    try simp only [Act.put, List.setIfInBounds_toArray, List.set_cons_zero, List.set_cons_succ]
    refine wpAnyH_take (i := 8) (oi := ⟨_, _, _, _, _, _⟩) (v := undef) rfl (by kernel_rfl) (by kernel_rfl) (by kernel_rfl) (fun _ _ _ h => h) (Or.inr ⟨by rfl, rfl⟩) (by assumption) ?_
    try simp only [Act.put, List.setIfInBounds_toArray, List.set_cons_zero, List.set_cons_succ]
    refine wpAnyH_take (i := 9) (oi := ⟨_, _, _, _, _, _⟩) (v := ?vap6027q9) rfl (by kernel_rfl) (by kernel_rfl) (by kernel_rfl) (fun _ _ _ h => h) (Or.inl ⟨by rfl, ?hap6027q9⟩) (by assumption) ?_
    case hap6027q9 => (intro w hSw; (try dsimp only at hSw); go_simp; try with_reducible rfl)
    try simp only [Act.put, List.setIfInBounds_toArray, List.set_cons_zero, List.set_cons_succ]
    refine wpAnyH_take (i := 10) (oi := ⟨_, _, _, _, _, _⟩) (v := ?vap6027q10) rfl (by kernel_rfl) (by kernel_rfl) (by kernel_rfl) (fun _ _ _ h => h) (Or.inl ⟨by rfl, ?hap6027q10⟩) (by assumption) ?_
    case hap6027q10 => (intro w hSw; (try dsimp only at hSw); go_simp; try with_reducible rfl)
    try simp only [Act.put, List.setIfInBounds_toArray, List.set_cons_zero, List.set_cons_succ]
    refine wpAnyH_done (by kernel_rfl) ?_ _
    have HB3 := Lib.hid (HB.out.trans ((show OneS W _ w.heap.size (.slice A0 zs.length c0) from by assumption).2.2.mono HB.out.size))
    go_wp2_with fail
    go_ret
    exact ⟨ret_bool HF.out, HB3.out⟩
  · have HPB := Lib.hid hp
    obtain ⟨b, hb⟩ : ∃ b, (((covTo ls ls.length : Nat) : Int) == ((setZ zs : Nat) : Int)) = b := ⟨_, rfl⟩
    have HF : Hid (b = tileB (setZ zs) ls) := by
      unfold Hid tileB; rw [hp, Bool.true_and, ← hb, Bool.eq_iff_iff, beq_iff_eq, beq_iff_eq]; omega
    clear hp
    go_enter Try.func71, Try.ntmps71
    go_wp2_with fail
    rw [← HW.out]
    refine wp_region_held_drew (S := fun w' => OneS W w' w.heap.size (.slice A0 zs.length c0)) (by kernel_rfl) (by exact HT0.out.drew) (fun hHeld => ?_)
    refine wpAnyH_take (i := 0) (oi := ⟨_, _, _, _, _, _⟩) (v := ?vap6028q0) rfl (by kernel_rfl) (by kernel_rfl) (by kernel_rfl) (fun _ _ _ h => h) (Or.inl ⟨by rfl, ?hap6028q0⟩) (by assumption) ?_
    case hap6028q0 => (intro w hSw; (try dsimp only at hSw); go_simp; try with_reducible rfl)
    try simp only [Act.put, List.setIfInBounds_toArray, List.set_cons_zero, List.set_cons_succ]
    refine wpAnyH_take (i := 1) (oi := ⟨_, _, _, _, _, _⟩) (v := ?vap6028q1) rfl (by kernel_rfl) (by kernel_rfl) (by kernel_rfl) (fun _ _ _ h => h) (Or.inl ⟨by rfl, ?hap6028q1⟩) (by assumption) ?_
    case hap6028q1 => (intro w hSw; (try dsimp only at hSw); go_simp; try with_reducible rfl)
    try simp only [Act.put, List.setIfInBounds_toArray, List.set_cons_zero, List.set_cons_succ]
    refine wpAnyH_ready (rs := [2]) (by kernel_rfl) (by simp) ?_
    refine AllReadyH.cons (o := ⟨_, _, _, _, _, _⟩) rfl (fun K hK => ?_) AllReadyH.nil
    go_simp; go_at_call 134; refine (IsPartial_yes _ _ zs ls B _ (HU.out.below ((HB.out.trans (hHeld.2.2.mono HB.out.size)).mono hB)) (HV.out.below ((HB.out.trans (hHeld.2.2.mono HB.out.size)).mono hB)) (Nat.le_trans hB (Nat.le_trans HB.out.size hHeld.2.1)) HOK.out).mono ?_; rintro e w3 ⟨rfl, hb3⟩; rw [HPB.out]
    refine hK.out _ _ (by exact OneS.keep hb3 L1.out (by assumption)) (fun hHeld => ?_)
    clear hK K
    try simp only [Act.put, List.setIfInBounds_toArray, List.set_cons_zero, List.set_cons_succ]
    refine wpAnyH_take (i := 3) (oi := ⟨_, _, _, _, _, _⟩) (v := ?vap6028q3) rfl (by kernel_rfl) (by kernel_rfl) (by kernel_rfl) (fun _ _ _ h => h) (Or.inl ⟨by rfl, ?hap6028q3⟩) (by assumption) ?_
    case hap6028q3 => (intro w hSw; (try dsimp only at hSw); go_simp; try with_reducible rfl)
    try simp only [Act.put, List.setIfInBounds_toArray, List.set_cons_zero, List.set_cons_succ]
    refine wpAnyH_take (i := 4) (oi := ⟨_, _, _, _, _, _⟩) (v := ?vap6028q4) rfl (by kernel_rfl) (by kernel_rfl) (by kernel_rfl) (fun _ _ _ h => h) (Or.inl ⟨by rfl, ?hap6028q4⟩) (by assumption) ?_
    case hap6028q4 => (intro w hSw; (try dsimp only at hSw); go_simp; try with_reducible rfl)
    try simp only [Act.put, List.setIfInBounds_toArray, List.set_cons_zero, List.set_cons_succ]
    refine wpAnyH_take (i := 6) (oi := ⟨_, _, _, _, _, _⟩) (v := ?vap6028q6) rfl (by kernel_rfl) (by kernel_rfl) (by kernel_rfl) (fun _ _ _ h => h) (Or.inl ⟨by rfl, ?hap6028q6⟩) (by assumption) ?_
    case hap6028q6 => (intro w hSw; (try dsimp only at hSw); go_simp; try with_reducible rfl)
    try simp only [Act.put, List.setIfInBounds_toArray, List.set_cons_zero, List.set_cons_succ]
    refine wpAnyH_ready (rs := [5]) (by kernel_rfl) (by simp) ?_
    refine AllReadyH.cons (o := ⟨_, _, _, _, _, _⟩) rfl (fun K hK => ?_) AllReadyH.nil
    go_simp; go_at_call 76; refine (covered_any _ ls B _ (HV.out.below ((HB.out.trans (hHeld.2.2.mono HB.out.size)).mono hB)) (Nat.le_trans hB (Nat.le_trans HB.out.size hHeld.2.1))).mono ?_; rintro e w3 ⟨rfl, hb3⟩
    refine hK.out _ _ (by exact OneS.keep hb3 L1.out (by assumption)) (fun hHeld => ?_)
    clear hK K
    try simp only [Act.put, List.setIfInBounds_toArray, List.set_cons_zero, List.set_cons_succ]
    refine wpAnyH_ready (rs := [7]) (by kernel_rfl) (by simp) ?_
    refine AllReadyH.cons (o := ⟨_, _, _, _, _, _⟩) rfl (fun K hK => ?_) AllReadyH.nil
    go_simp; go_at_call 60; refine (rset_any _ zs B _ (HU.out.below ((HB.out.trans (hHeld.2.2.mono HB.out.size)).mono hB)) (Nat.le_trans hB (Nat.le_trans HB.out.size hHeld.2.1)) HOK.out).mono ?_; rintro e w3 ⟨rfl, hb3⟩
    refine hK.out _ _ (by exact OneS.keep hb3 L1.out (by assumption)) (fun hHeld => ?_)
    clear hK K
    try simp only [Act.put, List.setIfInBounds_toArray, List.set_cons_zero, List.set_cons_succ]
    refine wpAnyH_take (i := 8) (oi := ⟨_, _, _, _, _, _⟩) (v := ?vap6028q8) rfl (by kernel_rfl) (by kernel_rfl) (by kernel_rfl) (fun _ _ _ h => h) (Or.inl ⟨by rfl, ?hap6028q8⟩) (by assumption) ?_
    case hap6028q8 => (intro w hSw; (try dsimp only at hSw); go_simp; try with_reducible rfl)
    try simp only [Act.put, List.setIfInBounds_toArray, List.set_cons_zero, List.set_cons_succ]
    refine wpAnyH_take (i := 9) (oi := ⟨_, _, _, _, _, _⟩) (v := ?vap6028q9) rfl (by kernel_rfl) (by kernel_rfl) (by kernel_rfl) (fun _ _ _ h => h) (Or.inl ⟨by rfl, ?hap6028q9⟩) (by assumption) ?_
    case hap6028q9 => (intro w hSw; (try dsimp only at hSw); go_simp; try with_reducible rfl)
    try simp only [Act.put, List.setIfInBounds_toArray, List.set_cons_zero, List.set_cons_succ]
    refine wpAnyH_take (i := 10) (oi := ⟨_, _, _, _, _, _⟩) (v := ?vap6028q10) rfl (by kernel_rfl) (by kernel_rfl) (by kernel_rfl) (fun _ _ _ h => h) (Or.inl ⟨by rfl, ?hap6028q10⟩) (by assumption) ?_
    case hap6028q10 => (intro w hSw; (try dsimp only at hSw); go_simp; try with_reducible rfl)
    try simp only [Act.put, List.setIfInBounds_toArray, List.set_cons_zero, List.set_cons_succ]
    refine wpAnyH_done (by kernel_rfl) ?_ _
    have HB3 := Lib.hid (HB.out.trans ((show OneS W _ w.heap.size (.slice A0 zs.length c0) from by assumption).2.2.mono HB.out.size))
    go_wp2_with fail
    go_ret
    exact ⟨ret_bool HF.out, HB3.out⟩
end Go.Proofs.Ytehnbalbpfmijaa

namespace Go.Proofs.Ytehnbalbpfmijaa
open Go.RowKit
set_option linter.unusedVariables false

/-- The rows of a rectangle. -/
def rectZ (a b : Nat) : List Int := List.replicate b (((2 ^ a - 1 : Nat) : Int))
theorem rectZ_ok (a b : Nat) (ha : a ≤ 8) (hb : b ≤ 8) : regOkB (rectZ a b) = true := by
  unfold regOkB rectZ allB
  have h : 2 ^ a ≤ 2 ^ 8 := Nat.pow_le_pow_right (by omega) ha
  simp only [List.length_replicate, Bool.and_eq_true, decide_eq_true_eq, List.all_eq_true, inB_iff, List.mem_replicate]
  refine ⟨hb, ?_⟩
  rintro x ⟨_, rfl⟩
  omega
/-- While it is built: the result's cell, the region's cell. -/
structure RBld (w : World) (wr : World) (v : Value) (zs : List Int) : Prop where
  c0 : wr.heap[w.heap.size]? = some (.cells #[.slice none 0 0] 39 (0, 0))
  c1 : wr.heap[w.heap.size + 1]? = some (.cells #[v] 39 (0, 0))
  acc : Acc elInt w (w.heap.size + 2) wr v zs
theorem RBld.push {w wr w2 : World} {v v' : Value} {zs zs' : List Int} (h : RBld w wr v zs) (HA : Hid (Acc elInt w (w.heap.size + 2) w2 v' zs')) (HG : Hid (Grew wr.drew w2 v v')) :
    (∃ u, w2.heap[w.heap.size + 1]? = some (.cells #[u] 39 (0, 0))) ∧ RBld w (w2.setCell ⟨w.heap.size + 1, 0, none⟩ v') v' zs' := by
  have hl0 := lt_of_block h.c0
  have hl1 := lt_of_block h.c1
  have hne : ∀ k, k < w.heap.size + 2 → v.ownBlock ≠ some k := fun k hk e => by have := (h.acc.lt k e).1; omega
  have hkeep : ∀ k, k < wr.heap.size → k < w.heap.size + 2 → w2.heap[k]? = wr.heap[k]? := fun k h1 h2 => by
    rw [HG.out.1.block k h1 (fun e => hne k h2 e.symm)]; rfl
  have k0 := (hkeep _ hl0 (by omega)).trans h.c0
  have k1 := (hkeep _ hl1 (by omega)).trans h.c1
  refine ⟨⟨v, k1⟩, (Below.heap_setCell _ _ _ _ (by simp)).trans k0, (blk_setCell k1 _).trans (by simp), ?_⟩
  obtain ⟨a1, a2, a3, a4⟩ := HA.out
  refine ⟨ownsRow_keep (hi := w2.heap.size) a1 (fun k hk => (a1.lt k hk).2) fun k k1 k2 => Below.heap_setCell _ _ _ _ (by show k ≠ w.heap.size + 1; omega), a2.setCell (by show w.heap.size ≤ w.heap.size + 1; omega) _, a3, by simpa using a4⟩

set_option maxRecDepth 100000 in
set_option maxHeartbeats 2000000 in
theorem Rectangle_yes (a b : Nat) (ha : 1 ≤ a ∧ a ≤ 8) (hb : 1 ≤ b ∧ b ≤ 8) (w : World) :
    Calls Try.prog 59 #[.int .i64 (a : Int), .int .i64 (b : Int)] w fun e w' => ∃ u, e = .returned (.agg #[u]) ∧ RdI w' w'.heap.size u (rectZ a b) ∧ Below w.heap.size w w' := by
  have t1 : inB (a : Int) 1 8 = true := inB_true (by omega) (by omega)
  have t2 : inB (b : Int) 1 8 = true := inB_true (by omega) (by omega)
  have h8 : 2 ^ a ≤ 2 ^ 8 := Nat.pow_le_pow_right (by omega) ha.2
  obtain ⟨q, HQ⟩ : ∃ q : Nat, Hid (2 ^ a = q + 1) := ⟨2 ^ a - 1, by unfold Hid; have : 0 < 2 ^ a := Nat.pos_of_ne_zero (by simp); omega⟩
  have HZ : Hid (rectZ a b = List.replicate b (q : Int)) := by unfold Hid rectZ; rw [HQ.out]; rfl
  rw [HQ.out] at h8
  have hw1 : IntKind.i64.wrap ((2 : Int) ^ a) = (q : Int) + 1 := by
    have : ((2 : Int) ^ a) = ((2 ^ a : Nat) : Int) := by simp
    rw [this, HQ.out]
    exact IntWalk.i64_in _ (by omega)
  have hw2 : IntKind.i64.wrap (q : Int) = (q : Int) := IntWalk.i64_in _ (by omega)
  go_enter Try.func59, Try.ntmps59
  go_wp2_with fail
  refine (within_any _ _ _ _).mono ?_
  rintro e w' ⟨rfl, rfl⟩
  rw [t1]
  go_wp2_with fail
  refine (within_any _ _ _ _).mono ?_
  rintro e w' ⟨rfl, rfl⟩
  rw [t2]
  go_wp2_with fail
  obtain ⟨W, hW, k1, k2, hbW⟩ := two_alloc w (.cells #[.slice none 0 0] 39) (.cells #[.slice none 0 0] 39)
  rw [← hW]
  have HR : Hid (RBld w W (.slice none 0 0) []) := ⟨k1, k2, ⟨OwnF.nil, hbW, by omega, by rw [hW]; simp⟩⟩
  clear hW k1 k2 hbW
  go_loopw [17] (fun i wr => ∃ (k : Nat) (v : Value), k ≤ b ∧ i = .int .i64 k ∧ Hid (RBld w wr v (List.replicate k (q : Int)))) (fun i _ => b - (intOf i).toNat)
  case atStart => exact ⟨0, _, Nat.zero_le _, rfl, HR⟩
  case round =>
    obtain ⟨k, v, hk, rfl, HR⟩ := hrel
    obtain ⟨A, ca, hv, q1, q2, _⟩ := HR.out.acc.1.rd okInt
    rw [List.length_replicate] at hv q1
    subst hv
    unfold maxLen at q2
    have c1 := cell_of_one HR.out.c1
    by_cases hlt : k < b
    · have HA := Lib.hid (HR.out.acc.below ((Below.refl wr.heap.size wr).drew))
      have c1b : (wr.alloc (.cells #[.int .i64 (q : Int)] 3)).cell? ⟨w.heap.size + 1, 0, none⟩ = some (.slice A k ca) := (((Below.refl wr.heap.size wr).alloc (Nat.le_refl _) _).cell (p := ⟨w.heap.size + 1, 0, none⟩) (lt_of_block HR.out.c1)).trans c1
      go_wp2_with fail
      go_region_law (refine step_push (wr := wr.drew) okInt (by rfl) _ _ (by rfl) HA.out (by rfl) (q : Int) _ (by rfl) wr.heap.size (by rfl) (by simp) (by simp; omega) ?_; intro v' w2 HA2 HG2; obtain ⟨A2, ca2, hv2, _⟩ := HA2.out.1.rd okInt; rw [show (List.replicate k (q : Int) ++ [(q : Int)]).length = k + 1 by simp] at hv2; rw [hv2] at HA2 HG2; rw [hv2]; clear hv2; obtain ⟨⟨u9, hk9⟩, hB9⟩ := HR.out.push HA2 HG2; have ck := cell_of_one hk9; have fk := free_of_one hk9; have HB9 := Lib.hid hB9; clear hB9 hk9)
      all_goals
        go_wp2_with fail
        go_roundw
        case rel => exact ⟨k + 1, _, by omega, by go_num, by (unfold Hid; rw [List.replicate_succ']; exact HB9.out)⟩
        case measure => simp [intOf]; omega
    · obtain rfl : k = b := by omega
      have c0 := cell_of_one HR.out.c0
      have f0 := free_of_one HR.out.c0
      have HX := Lib.hid HR.out
      go_wp2_with fail
      have hl0 := lt_of_block HX.out.c0
      have hB := HX.out.acc.2.1
      have k9 : (wr.setCell ⟨w.heap.size, 0, none⟩ (.slice A k ca)).heap[w.heap.size]? = some (.cells #[.slice A k ca] 39 (0, 0)) := (blk_setCell HX.out.c0 _).trans (by simp)
      have r0 : (wr.setCell ⟨w.heap.size, 0, none⟩ (.slice A k ca)).cell? ⟨w.heap.size, 0, none⟩ = some (.slice A k ca) := cell_of_one k9
      have HN : OwnI (wr.setCell ⟨w.heap.size, 0, none⟩ (.slice A k ca)) (w.heap.size + 2) (.slice A k ca) (List.replicate k (q : Int)) :=
        ownF_int.1 (ownsRow_keep (hi := wr.heap.size) HX.out.acc.1 (fun j hj => (HX.out.acc.lt j hj).2) fun j j1 j2 => Below.heap_setCell _ _ _ _ (by show j ≠ w.heap.size; omega))
      refine bodyPost_ret (v := .agg #[.slice A k ca]) (by simp [results, Try.results59, go_sem, r0]) rfl ⟨_, rfl, ?_, ?_⟩
      · rw [HZ.out]; exact HN.rd
      · exact hB.setCell (Nat.le_refl _) _
end Go.Proofs.Ytehnbalbpfmijaa

namespace Go.Proofs.Ytehnbalbpfmijaa
open Go.RowKit
set_option linter.unusedVariables false

set_option maxRecDepth 100000 in
set_option maxHeartbeats 2000000 in
theorem specRectangle_yes (a b : Nat) (ha : 1 ≤ a ∧ a ≤ 8) (hb : 1 ≤ b ∧ b ≤ 8) (w : World) :
    Calls Try.prog 92 #[.int .i64 (a : Int), .int .i64 (b : Int)] w fun e w' => ∃ u, e = .returned (.agg #[u]) ∧ RdI w' w'.heap.size u (rectZ a b) ∧ Below w.heap.size w w' := by
  have t1 : inB (a : Int) 1 8 = true := inB_true (by omega) (by omega)
  have t2 : inB (b : Int) 1 8 = true := inB_true (by omega) (by omega)
  have h8 : 2 ^ a ≤ 2 ^ 8 := Nat.pow_le_pow_right (by omega) ha.2
  obtain ⟨q, HQ⟩ : ∃ q : Nat, Hid (2 ^ a = q + 1) := ⟨2 ^ a - 1, by unfold Hid; have : 0 < 2 ^ a := Nat.pos_of_ne_zero (by simp); omega⟩
  have HZ : Hid (rectZ a b = List.replicate b (q : Int)) := by unfold Hid rectZ; rw [HQ.out]; rfl
  rw [HQ.out] at h8
  have hw1 : IntKind.i64.wrap ((2 : Int) ^ a) = (q : Int) + 1 := by
    have : ((2 : Int) ^ a) = ((2 ^ a : Nat) : Int) := by simp
    rw [this, HQ.out]
    exact IntWalk.i64_in _ (by omega)
  have hw2 : IntKind.i64.wrap (q : Int) = (q : Int) := IntWalk.i64_in _ (by omega)
  go_enter Try.func92, Try.ntmps92
  go_wp2_with fail
  obtain ⟨W, hW, k1, k2, hbW⟩ := two_alloc w (.cells #[.slice none 0 0] 39) (.cells #[.slice none 0 0] 39)
  rw [← hW]
  have HR : Hid (RBld w W (.slice none 0 0) []) := ⟨k1, k2, ⟨OwnF.nil, hbW, by omega, by rw [hW]; simp⟩⟩
  clear hW k1 k2 hbW
  go_loopw [6] (fun i wr => ∃ (k : Nat) (v : Value), k ≤ b ∧ i = .int .i64 k ∧ Hid (RBld w wr v (List.replicate k (q : Int)))) (fun i _ => b - (intOf i).toNat)
  case atStart => exact ⟨0, _, Nat.zero_le _, rfl, HR⟩
  case round =>
    obtain ⟨k, v, hk, rfl, HR⟩ := hrel
    obtain ⟨A, ca, hv, q1, q2, _⟩ := HR.out.acc.1.rd okInt
    rw [List.length_replicate] at hv q1
    subst hv
    unfold maxLen at q2
    have c1 := cell_of_one HR.out.c1
    by_cases hlt : k < b
    · have HA := Lib.hid (HR.out.acc.below ((Below.refl wr.heap.size wr).drew))
      have c1b : (wr.alloc (.cells #[.int .i64 (q : Int)] 3)).cell? ⟨w.heap.size + 1, 0, none⟩ = some (.slice A k ca) := (((Below.refl wr.heap.size wr).alloc (Nat.le_refl _) _).cell (p := ⟨w.heap.size + 1, 0, none⟩) (lt_of_block HR.out.c1)).trans c1
      have ht : decide ((k : Int) < (b : Int)) = true := by simp only [decide_eq_true_eq]; omega
      go_wp2_with fail
      refine (l01In_any _ _ _ _).mono ?_
      rintro e w' ⟨rfl, rfl⟩
      rw [t1]
      go_wp2_with fail
      refine (l01In_any _ _ _ _).mono ?_
      rintro e w' ⟨rfl, rfl⟩
      rw [t2]
      go_wp2_with fail
      go_region_law (refine step_push (wr := wr.drew) okInt (by rfl) _ _ (by rfl) HA.out (by rfl) (q : Int) _ (by rfl) wr.heap.size (by rfl) (by simp) (by simp; omega) ?_; intro v' w2 HA2 HG2; obtain ⟨A2, ca2, hv2, _⟩ := HA2.out.1.rd okInt; rw [show (List.replicate k (q : Int) ++ [(q : Int)]).length = k + 1 by simp] at hv2; rw [hv2] at HA2 HG2; rw [hv2]; clear hv2; obtain ⟨⟨u9, hk9⟩, hB9⟩ := HR.out.push HA2 HG2; have ck := cell_of_one hk9; have fk := free_of_one hk9; have HB9 := Lib.hid hB9; clear hB9 hk9)
      all_goals
        go_wp2_with fail
        go_roundw
        case rel => exact ⟨k + 1, _, by omega, by go_num, by (unfold Hid; rw [List.replicate_succ']; exact HB9.out)⟩
        case measure => simp [intOf]; omega
    · obtain rfl : k = b := by omega
      have ht : decide ((k : Int) < (k : Int)) = false := by simp
      have c0 := cell_of_one HR.out.c0
      have f0 := free_of_one HR.out.c0
      have HX := Lib.hid HR.out
      go_wp2_with fail
      have hl0 := lt_of_block HX.out.c0
      have hB := HX.out.acc.2.1
      have k9 : (wr.setCell ⟨w.heap.size, 0, none⟩ (.slice A k ca)).heap[w.heap.size]? = some (.cells #[.slice A k ca] 39 (0, 0)) := (blk_setCell HX.out.c0 _).trans (by simp)
      have r0 : (wr.setCell ⟨w.heap.size, 0, none⟩ (.slice A k ca)).cell? ⟨w.heap.size, 0, none⟩ = some (.slice A k ca) := cell_of_one k9
      have HN : OwnI (wr.setCell ⟨w.heap.size, 0, none⟩ (.slice A k ca)) (w.heap.size + 2) (.slice A k ca) (List.replicate k (q : Int)) :=
        ownF_int.1 (ownsRow_keep (hi := wr.heap.size) HX.out.acc.1 (fun j hj => (HX.out.acc.lt j hj).2) fun j j1 j2 => Below.heap_setCell _ _ _ _ (by show j ≠ w.heap.size; omega))
      refine bodyPost_ret (v := .agg #[.slice A k ca]) (by simp [results, Try.results92, go_sem, r0]) rfl ⟨_, rfl, ?_, ?_⟩
      · rw [HZ.out]; exact HN.rd
      · exact hB.setCell (Nat.le_refl _) _
end Go.Proofs.Ytehnbalbpfmijaa

namespace Go.Proofs.Ytehnbalbpfmijaa
open Go.RowKit

section
variable {α : Type} (sz : α → Nat) (mk : Int → α → α)
/-- How many numbers stand ahead of the i-th element. -/
def cntTo (xs : List α) : Nat → Nat
  | 0 => 0
  | i + 1 => cntTo xs i + (xs[i]?.elim 0 sz)
/-- The first j elements marked. -/
def mixN (k : Int) (xs : List α) (j : Nat) : List α := xs.mapIdx fun i x => if i < j then mk (k + (cntTo sz xs i : Int)) x else x
def iotaN (k : Int) (xs : List α) : List α := xs.mapIdx fun i x => mk (k + (cntTo sz xs i : Int)) x
variable {sz mk}
theorem cntTo_mono (xs : List α) (i : Nat) : ∀ n, i ≤ n → cntTo sz xs i ≤ cntTo sz xs n := by
  intro n
  induction n with
  | zero => intro h; obtain rfl : i = 0 := by omega
            exact Nat.le_refl _
  | succ n ih => intro h
                 by_cases e : i = n + 1
                 · subst e; exact Nat.le_refl _
                 · exact Nat.le_trans (ih (by omega)) (Nat.le_add_right _ _)
theorem cntTo_succ (xs : List α) (i : Nat) (h : i < xs.length) : cntTo sz xs (i + 1) = cntTo sz xs i + sz xs[i] := by
  simp [cntTo, h]
theorem mixN_length (k : Int) (xs : List α) (j : Nat) : (mixN sz mk k xs j).length = xs.length := by simp [mixN]
theorem iotaN_length (k : Int) (xs : List α) : (iotaN sz mk k xs).length = xs.length := by simp [iotaN]
theorem mixN_at (k : Int) (xs : List α) (j : Nat) (h : j < xs.length) : (mixN sz mk k xs j)[j]? = some xs[j] := by simp [mixN, h]
theorem iotaN_at (k : Int) (xs : List α) (j : Nat) (h : j < xs.length) : (iotaN sz mk k xs)[j]? = some (mk (k + (cntTo sz xs j : Int)) xs[j]) := by simp [iotaN, h]
theorem mixN_zero (k : Int) (xs : List α) : mixN sz mk k xs 0 = xs := by
  apply List.ext_getElem
  · simp [mixN]
  · intro i h1 h2; simp [mixN]
theorem mixN_all (k : Int) (xs : List α) : mixN sz mk k xs xs.length = iotaN sz mk k xs := by
  apply List.ext_getElem
  · simp [mixN, iotaN]
  · intro i h1 h2
    have : i < xs.length := by simpa [iotaN] using h2
    simp [mixN, iotaN, this]
theorem mixN_set (k : Int) (xs : List α) (j : Nat) (h : j < xs.length) : (mixN sz mk k xs j).set j (mk (k + (cntTo sz xs j : Int)) xs[j]) = mixN sz mk k xs (j + 1) := by
  apply List.ext_getElem
  · simp [mixN]
  · intro i h1 h2
    rw [List.getElem_set]
    by_cases e : j = i
    · subst e; simp [mixN]
    · by_cases e2 : i < j
      · simp [mixN, e, e2, show i < j + 1 by omega]
      · simp [mixN, e, e2, show ¬ i < j + 1 by omega]
end
theorem RdN.open_ {α : Type} {R : World → Nat → Value → α → Prop} {w : World} {B : Nat} {v : Value} {xs : List α} (h : RdN R w B v xs) : ∃ A c, v = .slice A xs.length c ∧ xs.length ≤ c ∧ c ≤ maxLen ∧ ∀ i, (hi : i < xs.length) → ∃ (ad : Addr) (s : Sl), A = some ad ∧ ad.block < B ∧ w.cell? (ad.add i) = some (slV s) ∧ R w B (slV s) xs[i] := by
  obtain ⟨A, c, e, h1, h2, h3⟩ := h
  exact ⟨A, c, e, h1, h2, fun i hi => h3 i _ (List.getElem?_eq_getElem hi)⟩
end Go.Proofs.Ytehnbalbpfmijaa

namespace Go.Proofs.Ytehnbalbpfmijaa
open Go.RowKit
set_option linter.unusedVariables false

theorem specCellOk_any (x y : Int) (w : World) :
    Calls Try.prog 140 #[spotV x y] w fun e w' => e = .returned (.bool (spotB 7 x y)) ∧ Below w.heap.size w w' := by
  cases h1 : inB x 0 7 <;> cases h2 : inB y 0 7
  all_goals
    go_enter Try.func140, Try.ntmps140
    go_wp2_with (go_at_call 90; refine (l01In_any _ _ _ _).mono ?_; rintro e w' ⟨rfl, rfl⟩)
    go_ret
    exact ⟨by simp [spotB, h1, h2], (Below.refl _ _).alloc (by simp) _⟩

theorem specCellIndex_yes (x y : Nat) (hx : x ≤ 7) (hy : y ≤ 7) (w : World) :
    Calls Try.prog 86 #[spotV x y] w fun e w' => e = .returned (.int .i64 (cix x y : Nat)) ∧ Below w.heap.size w w' := by
  have hok : spotB 7 x y = true := (spotB_iff _ _ _).2 ⟨by omega, by omega⟩
  have HE : Hid ((y : Int) * 8 + (x : Int) = ((cix x y : Nat) : Int)) := by unfold Hid cix; omega
  go_enter Try.func86, Try.ntmps86
  go_wp2_with fail
  refine (specCellOk_any _ _ _).mono ?_
  rintro e w1 ⟨rfl, hb1⟩
  rw [hok]
  obtain ⟨hc, hf⟩ := bcell hb1
  go_wp2_with fail
  go_ret
  exact ⟨ret_int HE.out, ((Below.refl _ _).alloc (Nat.le_refl _) _).trans (hb1.mono (by simp))⟩

set_option maxRecDepth 100000 in
set_option maxHeartbeats 1000000 in
theorem l05Second_any (x y : Int) (d : Bool) (w : World) :
    Calls Try.prog 141 #[triV x y d] w fun e w' => e = .returned (spotV (sndX x d) (sndY y d)) ∧ Below w.heap.size w w' := by
  have hx1 : IntKind.i64.wrap (x + 1) = sndX x false := by rw [IntWalk.i64_left]; rfl
  have hy1 : IntKind.i64.wrap (y + 1) = sndY y true := by rw [IntWalk.i64_left]; rfl
  have HX0 : Hid (sndX x true = x) := rfl
  have HY0 : Hid (sndY y false = y) := rfl
  obtain ⟨W, hW, k0, k1, hb⟩ := two_alloc w (.cells #[.int .i64 x, .int .i64 y, .bool d] 46) (.cells #[.int .i64 0, .int .i64 0] 44)
  have c0 : W.cell? ⟨w.heap.size, 0, none⟩ = some (.int .i64 x) := by rw [blk_cell k0]; rfl
  have c1 : W.cell? ⟨w.heap.size, 1, none⟩ = some (.int .i64 y) := by rw [blk_cell k0]; rfl
  have c2 : W.cell? ⟨w.heap.size, 2, none⟩ = some (.bool d) := by rw [blk_cell k0]; rfl
  have d0 : W.cell? ⟨w.heap.size + 1, 0, none⟩ = some (.int .i64 0) := by rw [blk_cell k1]; rfl
  have d1 : W.cell? ⟨w.heap.size + 1, 1, none⟩ = some (.int .i64 0) := by rw [blk_cell k1]; rfl
  have f0 : ∀ o, W.frozen? ⟨w.heap.size + 1, o, none⟩ = false := fun o => blk_free k1
  have HS : Hid (∀ p q, let X := (W.setCell ⟨w.heap.size + 1, 0, none⟩ p).setCell ⟨w.heap.size + 1, 1, none⟩ q; X.cell? ⟨w.heap.size + 1, 0, none⟩ = some p ∧ X.cell? ⟨w.heap.size + 1, 1, none⟩ = some q ∧ Below w.heap.size w X) := fun p q => by
    have h1 := blk_setCell (k := 1) (blk_setCell (k := 0) k1 p) q
    exact ⟨by rw [blk_cell h1]; rfl, by rw [blk_cell h1]; rfl, (hb.setCell (by show w.heap.size ≤ w.heap.size + 1; omega) _).setCell (by show w.heap.size ≤ w.heap.size + 1; omega) _⟩
  have HW := Lib.hid hW
  clear hW k0 k1 hb
  cases d
  · go_enter Try.func141, Try.ntmps141
    go_upto_region 1 with (fail)
    rw [← HW.out]
    go_wp2_with fail
    obtain ⟨r0, r1, r2⟩ := HS.out (.int .i64 (sndX x false)) (.int .i64 y)
    refine bodyPost_ret (v := spotV (sndX x false) (sndY y false)) (by simp [results, Try.results141, go_sem, r0, r1, HY0.out]) rfl ⟨rfl, r2⟩
  · go_enter Try.func141, Try.ntmps141
    go_upto_region 1 with (fail)
    rw [← HW.out]
    go_wp2_with fail
    obtain ⟨r0, r1, r2⟩ := HS.out (.int .i64 x) (.int .i64 (sndY y true))
    refine bodyPost_ret (v := spotV (sndX x true) (sndY y true)) (by simp [results, Try.results141, go_sem, r0, r1, HX0.out]) rfl ⟨rfl, r2⟩

set_option maxRecDepth 100000 in
set_option maxHeartbeats 1000000 in
theorem specDominoOk_any (x y : Int) (d : Bool) (w : World) :
    Calls Try.prog 82 #[triV x y d] w fun e w' => e = .returned (.bool (domB x y d)) ∧ Below w.heap.size w w' := by
  have HF : Hid ((spotB 7 x y && spotB 7 (sndX x d) (sndY y d)) = domB x y d) := rfl
  generalize domB x y d = r at *
  obtain ⟨W, hW, k1, hb⟩ := one_alloc w (triO x y d 46)
  have HW := Lib.hid hW
  have hT0 := OneT.of k1
  have HT0 := Lib.hid hT0
  obtain ⟨f0, f1, f2, _⟩ := hT0
  have HB := Lib.hid hb
  have HLS := Lib.hid (fun V => l05Second_any x y d V)
  clear hW hb
  generalize hx2 : sndX x d = x2 at *
  generalize hy2 : sndY y d = y2 at *
  clear hx2 hy2
  cases c1 : spotB 7 x y
  · have HQ : Hid (false = r) := by unfold Hid; rw [← HF.out, c1]; rfl
    go_enter Try.func82, Try.ntmps82
    go_upto_region 1 with (fail)
    rw [← HW.out]
    go_wp2_with fail
    refine (specCellOk_any _ _ _).mono ?_
    rintro e w3 ⟨rfl, hb3⟩
    rw [c1]
    go_wp2_with fail
    go_ret
    exact ⟨ret_bool HQ.out, HB.out.trans (hb3.mono HB.out.size)⟩
  · obtain ⟨b, hbb⟩ : ∃ b, spotB 7 x2 y2 = b := ⟨_, rfl⟩
    have HQ : Hid (b = r) := by unfold Hid; rw [← HF.out, c1, hbb]; rfl
    have HBB := Lib.hid hbb
    have K1 := Lib.hid k1
    clear HF hbb k1
    go_enter Try.func82, Try.ntmps82
    go_upto_region 1 with (fail)
    rw [← HW.out]
    go_wp2_with fail
    refine (specCellOk_any _ _ _).mono ?_
    rintro e w3 ⟨rfl, hb3⟩
    rw [c1]
    have hT3 := OneT.keep hb3 (lt_of_block K1.out) HT0.out
    obtain ⟨g0, g1, g2, _⟩ := hT3
    have HB3 := Lib.hid (HB.out.trans (hb3.mono HB.out.size))
    clear f0 f1 f2 hb3
    go_wp2_with fail
    refine (HLS.out _).mono ?_
    rintro e w4 ⟨rfl, hb4⟩
    have HB4 := Lib.hid (HB3.out.trans (hb4.mono HB3.out.size))
    go_wp2_with fail
    refine (specCellOk_any _ _ _).mono ?_
    rintro e w5 ⟨rfl, hb5⟩
    rw [HBB.out]
    go_wp2_with fail
    go_ret
    exact ⟨ret_bool HQ.out, HB4.out.trans (hb5.mono HB4.out.size)⟩
end Go.Proofs.Ytehnbalbpfmijaa

namespace Go.Proofs.Ytehnbalbpfmijaa
open Go.RowKit
set_option linter.unusedVariables false

theorem domLt_eq (x y x' y' : Nat) (d d' : Bool) (h : domB x y d = true) (h' : domB x' y' d' = true) : domLt (x, y, d) (x', y', d') = (decide (cix x y < cix x' y') || (decide (cix x y = cix x' y') && (!d && d'))) := by
  have hl : ∀ (a b : Nat) (d : Bool), domO ((a : Int)).toNat ((b : Int)).toNat d = 2 * cix a b + if d then 1 else 0 := fun a b d => by simp [domO]
  unfold domLt
  simp only [h, h', Bool.true_and, hl]
  rw [Bool.eq_iff_iff]
  simp only [decide_eq_true_eq, Bool.or_eq_true, Bool.and_eq_true, Bool.not_eq_true']
  cases d <;> cases d' <;> simp <;> omega

set_option maxRecDepth 100000 in
set_option maxHeartbeats 2000000 in
theorem specBefore_any (x y : Int) (d : Bool) (x' y' : Int) (d' : Bool) (w : World) :
    Calls Try.prog 83 #[triV x y d, triV x' y' d'] w fun e w' => e = .returned (.bool (domLt (x, y, d) (x', y', d'))) ∧ Below w.heap.size w w' := by
  obtain ⟨W, hW, k1, k2, hb⟩ := two_alloc w (triO x y d 46) (triO x' y' d' 46)
  have HW := Lib.hid hW
  have HT0 := Lib.hid (TwoT.of (w := w) (p := (x, y, d)) (q := (x', y', d')) k1 k2)
  have L1 := Lib.hid (lt_of_block k1)
  have L2 := Lib.hid (lt_of_block k2)
  have HB := Lib.hid hb
  clear hW hb k1 k2
  cases c1 : domB x y d
  · have HF : Hid (false = domLt (x, y, d) (x', y', d')) := by unfold Hid domLt; simp [c1]
    obtain ⟨f0, f1, f2, _⟩ := HT0.out
    go_enter Try.func83, Try.ntmps83
    go_upto_region 1 with (fail)
    rw [← HW.out]
    go_wp2_with fail
    refine (specDominoOk_any _ _ _ _).mono ?_
    rintro e w3 ⟨rfl, hb3⟩
    rw [c1]
    go_wp2_with fail
    go_ret
    exact ⟨ret_bool HF.out, HB.out.trans (hb3.mono HB.out.size)⟩
  · cases c2 : domB x' y' d'
    · have HF : Hid (false = domLt (x, y, d) (x', y', d')) := by unfold Hid domLt; simp [c1, c2]
      obtain ⟨f0, f1, f2, _⟩ := HT0.out
      go_enter Try.func83, Try.ntmps83
      go_upto_region 1 with (fail)
      rw [← HW.out]
      go_wp2_with fail
      refine (specDominoOk_any _ _ _ _).mono ?_
      rintro e w3 ⟨rfl, hb3⟩
      rw [c1]
      have HB3 := Lib.hid (HB.out.trans (hb3.mono HB.out.size))
      obtain ⟨_, _, _, g0, g1, g2, _⟩ := TwoT.keep hb3 L1.out L2.out HT0.out
      go_wp2_with fail
      refine (specDominoOk_any _ _ _ _).mono ?_
      rintro e w4 ⟨rfl, hb4⟩
      rw [c2]
      go_wp2_with fail
      go_ret
      exact ⟨ret_bool HF.out, HB3.out.trans (hb4.mono HB3.out.size)⟩
    · have hd := (domB_iff _ _ _).1 c1
      have hd' := (domB_iff _ _ _).1 c2
      obtain ⟨a, rfl⟩ := Int.eq_ofNat_of_zero_le hd.1.1
      obtain ⟨b, rfl⟩ := Int.eq_ofNat_of_zero_le hd.1.2
      obtain ⟨a', rfl⟩ := Int.eq_ofNat_of_zero_le hd'.1.1
      obtain ⟨b', rfl⟩ := Int.eq_ofNat_of_zero_le hd'.1.2
      have HF := Lib.hid (domLt_eq a b a' b' d d' c1 c2)
      have hA : a ≤ 7 ∧ b ≤ 7 := by cases d <;> simp at hd <;> omega
      have hA' : a' ≤ 7 ∧ b' ≤ 7 := by cases d' <;> simp at hd' <;> omega
      have e1 : (b : Int) * 8 + (a : Int) = ((cix a b : Nat) : Int) := by unfold cix; omega
      have e2 : (b' : Int) * 8 + (a' : Int) = ((cix a' b' : Nat) : Int) := by unfold cix; omega
      have e3 : cix a b ≤ 63 ∧ cix a' b' ≤ 63 := by unfold cix; omega
      have C1 := Lib.hid c1; have C2 := Lib.hid c2
      clear hd hd' c1 c2
      generalize cix a b = p at *
      generalize cix a' b' = q at *
      obtain ⟨f0, f1, f2, f3, f4, f5, _⟩ := HT0.out
      go_enter Try.func83, Try.ntmps83
      go_upto_region 1 with (fail)
      rw [← HW.out]
      go_wp2_with fail
      refine (specDominoOk_any _ _ _ _).mono ?_
      rintro e w3 ⟨rfl, hb3⟩
      rw [C1.out]
      have HB3 := Lib.hid (HB.out.trans (hb3.mono HB.out.size))
      have HT3 := Lib.hid (TwoT.keep hb3 L1.out L2.out HT0.out)
      obtain ⟨g0, g1, g2, g3, g4, g5, _⟩ := HT3.out
      clear f0 f1 f2 f3 f4 f5 hb3
      go_wp2_with fail
      refine (specDominoOk_any _ _ _ _).mono ?_
      rintro e w4 ⟨rfl, hb4⟩
      rw [C2.out]
      have HB4 := Lib.hid (HB3.out.trans (hb4.mono HB3.out.size))
      obtain ⟨i0, i1, i2, i3, i4, i5, _⟩ := TwoT.keep hb4 L1.out L2.out HT3.out
      clear g0 g1 g2 g3 g4 g5 hb4
      rcases Nat.lt_trichotomy p q with hl | hl | hl
      · have HR : Hid (true = domLt (a, b, d) (a', b', d')) := by unfold Hid; rw [HF.out]; simp [hl]
        go_wp2_with fail
        go_ret
        exact ⟨ret_bool HR.out, HB4.out⟩
      · have HR : Hid ((!d && d') = domLt (a, b, d) (a', b', d')) := by unfold Hid; rw [HF.out]; simp [hl]
        subst hl
        cases d <;> cases d'
        all_goals
          go_wp2_with fail
          go_ret
          exact ⟨by first | exact ret_bool (show false = _ from HR.out) | exact ret_bool (show true = _ from HR.out), HB4.out⟩
      · have HR : Hid (false = domLt (a, b, d) (a', b', d')) := by unfold Hid; rw [HF.out]; simp [show ¬ p < q by omega, show ¬ p = q by omega]
        have t1 : decide ((p : Int) < (q : Int)) = false := by simp; omega
        have t2 : ((p : Int) == (q : Int)) = false := by simp; omega
        go_wp2_with fail
        go_ret
        exact ⟨ret_bool ((decide_eq_false (show ¬ p < q by omega)).trans HR.out), HB4.out⟩
end Go.Proofs.Ytehnbalbpfmijaa

namespace Go.Proofs.Ytehnbalbpfmijaa
open Go.RowKit
set_option linter.unusedVariables false

set_option maxRecDepth 100000 in
set_option maxHeartbeats 4000000 in
theorem CellsUnder_yes (x y : Int) (d : Bool) (w : World) (h : domB x y d = true) :
    Calls Try.prog 84 #[triV x y d] w fun e w' => e = .returned (.tuple #[spotV x y, spotV (sndX x d) (sndY y d)]) ∧ Below w.heap.size w w' := by
  have H1 := Lib.hid h
  have HLS := Lib.hid (fun V => l05Second_any x y d V)
  clear h
  generalize sndX x d = x2 at *
  generalize sndY y d = y2 at *
  obtain ⟨W, hW, k0, k1, k2, hb⟩ := three_alloc w (triO x y d 46) (.cells #[.int .i64 0, .int .i64 0] 44) (.cells #[.int .i64 0, .int .i64 0] 44)
  have HW := Lib.hid hW
  have c0 : W.cell? ⟨w.heap.size, 0, none⟩ = some (.int .i64 x) := by rw [blk_cell k0]; rfl
  have c1 : W.cell? ⟨w.heap.size, 1, none⟩ = some (.int .i64 y) := by rw [blk_cell k0]; rfl
  have c2 : W.cell? ⟨w.heap.size, 2, none⟩ = some (.bool d) := by rw [blk_cell k0]; rfl
  have HB0 := Lib.hid hb
  have K0' := Lib.hid k0; have K1' := Lib.hid k1; have K2' := Lib.hid k2
  clear hW hb k0 k1 k2
  go_enter Try.func84, Try.ntmps84
  go_upto_region 1 with (fail)
  rw [← HW.out]
  go_wp2_with fail
  refine (specDominoOk_any _ _ _ _).mono ?_
  rintro e w1 ⟨rfl, hb1⟩
  rw [H1.out]
  have HB := Lib.hid (HB0.out.trans (hb1.mono HB0.out.size))
  have k0 := blk_below K0'.out hb1
  have K1 := Lib.hid (blk_below K1'.out hb1)
  have K2 := Lib.hid (blk_below K2'.out hb1)
  have g0 : w1.cell? ⟨w.heap.size, 0, none⟩ = some (.int .i64 x) := by rw [blk_cell k0]; rfl
  have g1 : w1.cell? ⟨w.heap.size, 1, none⟩ = some (.int .i64 y) := by rw [blk_cell k0]; rfl
  have g2 : w1.cell? ⟨w.heap.size, 2, none⟩ = some (.bool d) := by rw [blk_cell k0]; rfl
  have L0 := Lib.hid (lt_of_block k0)
  clear c0 c1 c2 hb1 k0
  go_wp2_with fail
  refine wp_region_held_drew (S := fun w' => w'.cell? ⟨w.heap.size, 0, none⟩ = some (.int .i64 x) ∧ w'.cell? ⟨w.heap.size, 1, none⟩ = some (.int .i64 y) ∧ w'.cell? ⟨w.heap.size, 2, none⟩ = some (.bool d)) (by kernel_rfl) (by exact ⟨g0, g1, g2⟩) (fun hHeld => ?_)
  refine wpAnyH_take (i := 0) (oi := ⟨_, _, _, _, _, _⟩) (v := ?vap27456q0) rfl (by kernel_rfl) (by kernel_rfl) (by kernel_rfl) (fun _ _ _ h => h) (Or.inl ⟨by rfl, ?hap27456q0⟩) (by assumption) ?_
  case hap27456q0 => (intro w hSw; (try dsimp only at hSw); go_simp; try with_reducible rfl)
  try simp only [Act.put, List.setIfInBounds_toArray, List.set_cons_zero, List.set_cons_succ]
  refine wpAnyH_take (i := 1) (oi := ⟨_, _, _, _, _, _⟩) (v := ?vap27456q1) rfl (by kernel_rfl) (by kernel_rfl) (by kernel_rfl) (fun _ _ _ h => h) (Or.inl ⟨by rfl, ?hap27456q1⟩) (by assumption) ?_
  case hap27456q1 => (intro w hSw; (try dsimp only at hSw); go_simp; try with_reducible rfl)
  try simp only [Act.put, List.setIfInBounds_toArray, List.set_cons_zero, List.set_cons_succ]
  refine wpAnyH_take (i := 2) (oi := ⟨_, _, _, _, _, _⟩) (v := ?vap27456q2) rfl (by kernel_rfl) (by kernel_rfl) (by kernel_rfl) (fun _ _ _ h => h) (Or.inl ⟨by rfl, ?hap27456q2⟩) (by assumption) ?_
  case hap27456q2 => (intro w hSw; (try dsimp only at hSw); go_simp; try with_reducible rfl)
  try simp only [Act.put, List.setIfInBounds_toArray, List.set_cons_zero, List.set_cons_succ]
  refine wpAnyH_take (i := 3) (oi := ⟨_, _, _, _, _, _⟩) (v := ?vap27456q3) rfl (by kernel_rfl) (by kernel_rfl) (by kernel_rfl) (fun _ _ _ h => h) (Or.inl ⟨by rfl, ?hap27456q3⟩) (by assumption) ?_
  case hap27456q3 => (intro w hSw; (try dsimp only at hSw); go_simp; try with_reducible rfl)
  try simp only [Act.put, List.setIfInBounds_toArray, List.set_cons_zero, List.set_cons_succ]
  refine wpAnyH_take (i := 4) (oi := ⟨_, _, _, _, _, _⟩) (v := ?vap27456q4) rfl (by kernel_rfl) (by kernel_rfl) (by kernel_rfl) (fun _ _ _ h => h) (Or.inl ⟨by rfl, ?hap27456q4⟩) (by assumption) ?_
  case hap27456q4 => (intro w hSw; (try dsimp only at hSw); go_simp; try with_reducible rfl)
  try simp only [Act.put, List.setIfInBounds_toArray, List.set_cons_zero, List.set_cons_succ]
  refine wpAnyH_take (i := 5) (oi := ⟨_, _, _, _, _, _⟩) (v := ?vap27456q5) rfl (by kernel_rfl) (by kernel_rfl) (by kernel_rfl) (fun _ _ _ h => h) (Or.inl ⟨by rfl, ?hap27456q5⟩) (by assumption) ?_
  case hap27456q5 => (intro w hSw; (try dsimp only at hSw); go_simp; try with_reducible rfl)
  try simp only [Act.put, List.setIfInBounds_toArray, List.set_cons_zero, List.set_cons_succ]
  refine wpAnyH_ready (rs := [6]) (by kernel_rfl) (by simp) ?_
  refine AllReadyH.cons (o := ⟨_, _, _, _, _, _⟩) rfl (fun K hK => ?_) AllReadyH.nil
  go_simp; go_at_call 141; refine (HLS.out _).mono ?_; rintro e w3 ⟨rfl, hb3⟩
  have j1 := blk_below (w := w1.drew) K1.out hb3
  have j2 := blk_below (w := w1.drew) K2.out hb3
  have d0 : w3.cell? ⟨w.heap.size + 1, 0, none⟩ = some (.int .i64 0) := by rw [blk_cell j1]; rfl
  have d1 : w3.cell? ⟨w.heap.size + 1, 1, none⟩ = some (.int .i64 0) := by rw [blk_cell j1]; rfl
  have d2 : w3.cell? ⟨w.heap.size + 1 + 1, 0, none⟩ = some (.int .i64 0) := by rw [blk_cell j2]; rfl
  have d3 : w3.cell? ⟨w.heap.size + 1 + 1, 1, none⟩ = some (.int .i64 0) := by rw [blk_cell j2]; rfl
  have f0 : ∀ o, w3.frozen? ⟨w.heap.size + 1, o, none⟩ = false := fun o => blk_free j1
  have f2 : ∀ o, w3.frozen? ⟨w.heap.size + 1 + 1, o, none⟩ = false := fun o => blk_free j2
  have J1 := Lib.hid j1; have J2 := Lib.hid j2; have HB3 := Lib.hid (HB.out.drew.trans (hb3.mono HB.out.size))
  clear j1 j2
  refine hK.out _ _ (by first | exact ⟨(hb3.cell (p := ⟨w.heap.size, 0, none⟩) L0.out).trans hHeld.1, (hb3.cell (p := ⟨w.heap.size, 1, none⟩) L0.out).trans hHeld.2.1, (hb3.cell (p := ⟨w.heap.size, 2, none⟩) L0.out).trans hHeld.2.2⟩ | (obtain ⟨hq0, hq1, hq2⟩ := hHeld; refine ⟨?_, ?_, ?_⟩ <;> go_simp)) (fun hHeld => ?_)
  clear hK K
  try simp only [Act.put, List.setIfInBounds_toArray, List.set_cons_zero, List.set_cons_succ]
  refine wpAnyH_ready (rs := [7]) (by kernel_rfl) (by simp) ?_
  refine AllReadyH.cons (o := ⟨_, _, _, _, _, _⟩) rfl (fun K hK => ?_) AllReadyH.nil
  go_simp
  refine hK.out _ _ (by first | exact ⟨(hb3.cell (p := ⟨w.heap.size, 0, none⟩) L0.out).trans hHeld.1, (hb3.cell (p := ⟨w.heap.size, 1, none⟩) L0.out).trans hHeld.2.1, (hb3.cell (p := ⟨w.heap.size, 2, none⟩) L0.out).trans hHeld.2.2⟩ | (obtain ⟨hq0, hq1, hq2⟩ := hHeld; refine ⟨?_, ?_, ?_⟩ <;> go_simp)) (fun hHeld => ?_)
  clear hK K
  try simp only [Act.put, List.setIfInBounds_toArray, List.set_cons_zero, List.set_cons_succ]
  refine wpAnyH_ready (rs := [8]) (by kernel_rfl) (by simp) ?_
  refine AllReadyH.cons (o := ⟨_, _, _, _, _, _⟩) rfl (fun K hK => ?_) AllReadyH.nil
  go_simp
  refine hK.out _ _ (by first | exact ⟨(hb3.cell (p := ⟨w.heap.size, 0, none⟩) L0.out).trans hHeld.1, (hb3.cell (p := ⟨w.heap.size, 1, none⟩) L0.out).trans hHeld.2.1, (hb3.cell (p := ⟨w.heap.size, 2, none⟩) L0.out).trans hHeld.2.2⟩ | (obtain ⟨hq0, hq1, hq2⟩ := hHeld; refine ⟨?_, ?_, ?_⟩ <;> go_simp)) (fun hHeld => ?_)
  clear hK K
  try simp only [Act.put, List.setIfInBounds_toArray, List.set_cons_zero, List.set_cons_succ]
  refine wpAnyH_done (by kernel_rfl) ?_ _
  have T1 := two_stores (w := w) (V := w3) (p := .int .i64 x) (q := .int .i64 y) (r := .int .i64 x2) (t := .int .i64 y2) J1.out J2.out (by omega) (by omega) (by omega) HB3.out
  go_wp2_with fail
  generalize hX : ((((w3.setCell ⟨w.heap.size + 1, 0, none⟩ (.int .i64 x)).setCell ⟨w.heap.size + 1, 1, none⟩ (.int .i64 y)).setCell ⟨w.heap.size + 1 + 1, 0, none⟩ (.int .i64 x2)).setCell ⟨w.heap.size + 1 + 1, 1, none⟩ (.int .i64 y2)) = X
  obtain ⟨r0, r1, r2, r3, r4⟩ := T1 X hX.symm
  refine bodyPost_ret (v := .tuple #[spotV x y, spotV x2 y2]) (by simp [results, Try.results84, go_sem, r0, r1, r2, r3]) rfl ⟨rfl, r4⟩
end Go.Proofs.Ytehnbalbpfmijaa
