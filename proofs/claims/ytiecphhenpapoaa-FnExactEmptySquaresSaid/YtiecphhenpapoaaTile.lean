/- IsTiling of the program. -/
import Derived.Test.YtiecphhenpapoaaPartial
namespace Go.Proofs.Ytiecphhenpapoaa
open Go.RowKit
set_option linter.unusedVariables false

def tileB (R : Nat) (ls : List Lk) : Bool := partB R ls && (covTo ls ls.length == R)
/-- One slice in a cell of its own, in a world that grows. -/
abbrev OneS (V w' : World) (a : Nat) (u : Value) : Prop := w'.cell? ⟨a, 0, none⟩ = some u ∧ V.heap.size ≤ w'.heap.size ∧ Below V.heap.size V w'
theorem OneS.keep {V W0 w1 : World} {a : Nat} {u : Value} (hb : Below W0.heap.size W0 w1) (ha : a < V.heap.size) (h : OneS V W0 a u) : OneS V w1 a u := by
  obtain ⟨h1, h7, h8⟩ := h
  exact ⟨(hb.cell (by simp; omega)).trans h1, Nat.le_trans h7 hb.size, h8.trans (hb.mono h7)⟩
theorem OneS.drew {V W0 : World} {a : Nat} {u : Value} (h : OneS V W0 a u) : OneS V W0.drew a u := ⟨h.1, h.2.1, h.2.2.drew⟩

set_option maxRecDepth 100000 in
set_option maxHeartbeats 4000000 in
theorem IsTiling_yes (u v : Value) (zs : List Int) (ls : List Lk) (B : Nat) (w : World) (hu : RdI w B u zs) (h : RdF elDomino w B v ls) (hB : B ≤ w.heap.size) (hok : regOkB zs = true) :
    Calls Try.prog 88 #[.agg #[u], v] w fun e w' => e = .returned (.bool (tileB (setZ zs) ls)) ∧ Below w.heap.size w w' := by
  have HU := Lib.hid hu
  have HV := Lib.hid h
  obtain ⟨A0, c0, rfl, g10, g20, _⟩ := hu
  unfold maxLen at g20
  clear h
  have HOK := Lib.hid hok
  clear hok
  obtain ⟨W, hW, k1, hb⟩ := one_alloc w (.cells #[.slice A0 zs.length c0] 51)
  have HW := Lib.hid hW
  have HB := Lib.hid hb
  have HT0 : Hid (OneS W W w.heap.size (.slice A0 zs.length c0)) := ⟨by rw [blk_cell k1]; rfl, Nat.le_refl _, Below.refl _ _⟩
  have L1 := Lib.hid (lt_of_block k1)
  clear hW k1 hb
  cases hp : partB (setZ zs) ls
  · have HF : Hid (false = tileB (setZ zs) ls) := by unfold Hid tileB; rw [hp]; rfl
    have HPB := Lib.hid hp
    clear hp
    go_enter Try.func88, Try.ntmps88
    go_wp2_with fail
    rw [← HW.out]
    refine wp_region_held_drew (S := fun w' => OneS W w' w.heap.size (.slice A0 zs.length c0)) (by kernel_rfl) (by exact HT0.out.drew) (fun hHeld => ?_)
    refine wpAnyH_take (i := 0) (oi := ⟨_, _, _, _, _, _⟩) (v := ?vap6027q0) rfl (by kernel_rfl) (by kernel_rfl) (by kernel_rfl) (fun _ _ _ h => h) (Or.inl ⟨by rfl, ?hap6027q0⟩) (by assumption) ?_
    case hap6027q0 => (intro w hSw; (try dsimp only at hSw); go_simp; try with_reducible rfl)
    try simp only [Act.put, List.setIfInBounds_toArray, List.set_cons_zero, List.set_cons_succ]
    refine wpAnyH_take (i := 1) (oi := ⟨_, _, _, _, _, _⟩) (v := ?vap6027q1) rfl (by kernel_rfl) (by kernel_rfl) (by kernel_rfl) (fun _ _ _ h => h) (Or.inl ⟨by rfl, ?hap6027q1⟩) (by assumption) ?_
    case hap6027q1 => (intro w hSw; (try dsimp only at hSw); go_simp; try with_reducible rfl)
    try simp only [Act.put, List.setIfInBounds_toArray, List.set_cons_zero, List.set_cons_succ]
    refine wpAnyH_ready (rs := [2]) (by kernel_rfl) (by simp) ?_
    refine AllReadyH.cons (o := ⟨_, _, _, _, _, _⟩) rfl (fun K hK => ?_) AllReadyH.nil
    go_simp; go_at_call 152; refine (IsPartial_yes _ _ zs ls B _ (HU.out.below ((HB.out.trans (hHeld.2.2.mono HB.out.size)).mono hB)) (HV.out.below ((HB.out.trans (hHeld.2.2.mono HB.out.size)).mono hB)) (Nat.le_trans hB (Nat.le_trans HB.out.size hHeld.2.1)) HOK.out).mono ?_; rintro e w3 ⟨rfl, hb3⟩; rw [HPB.out]
    refine hK.out _ _ (by exact OneS.keep hb3 L1.out (by assumption)) (fun hHeld => ?_)
    clear hK K
    try simp only [Act.put, List.setIfInBounds_toArray, List.set_cons_zero, List.set_cons_succ]
    refine wpAnyH_take (i := 3) (oi := ⟨_, _, _, _, _, _⟩) (v := ?vap6027q3) rfl (by kernel_rfl) (by kernel_rfl) (by kernel_rfl) (fun _ _ _ h => h) (Or.inl ⟨by rfl, ?hap6027q3⟩) (by assumption) ?_
    case hap6027q3 => (intro w hSw; (try dsimp only at hSw); go_simp; try with_reducible rfl)
    try simp only [Act.put, List.setIfInBounds_toArray, List.set_cons_zero, List.set_cons_succ]
    refine wpAnyH_take (i := 4) (oi := ⟨_, _, _, _, _, _⟩) (v := undef) rfl (by kernel_rfl) (by kernel_rfl) (by kernel_rfl) (fun _ _ _ h => h) (Or.inr ⟨by rfl, rfl⟩) (by assumption) ?_
    try simp only [Act.put, List.setIfInBounds_toArray, List.set_cons_zero, List.set_cons_succ]
    refine wpAnyH_take (i := 5) (oi := ⟨_, _, _, _, _, _⟩) (v := undef) rfl (by kernel_rfl) (by kernel_rfl) (by kernel_rfl) (fun _ _ _ h => h) (Or.inr ⟨by rfl, rfl⟩) (by assumption) ?_
    try simp only [Act.put, List.setIfInBounds_toArray, List.set_cons_zero, List.set_cons_succ]
    refine wpAnyH_take (i := 6) (oi := ⟨_, _, _, _, _, _⟩) (v := undef) rfl (by kernel_rfl) (by kernel_rfl) (by kernel_rfl) (fun _ _ _ h => h) (Or.inr ⟨by rfl, rfl⟩) (by assumption) ?_
    try simp only [Act.put, List.setIfInBounds_toArray, List.set_cons_zero, List.set_cons_succ]
    refine wpAnyH_take (i := 7) (oi := ⟨_, _, _, _, _, _⟩) (v := undef) rfl (by kernel_rfl) (by kernel_rfl) (by kernel_rfl) (fun _ _ _ h => h) (Or.inr ⟨by rfl, rfl⟩) (by assumption) ?_
    try simp only [Act.put, List.setIfInBounds_toArray, List.set_cons_zero, List.set_cons_succ]
    refine wpAnyH_take (i := 8) (oi := ⟨_, _, _, _, _, _⟩) (v := undef) rfl (by kernel_rfl) (by kernel_rfl) (by kernel_rfl) (fun _ _ _ h => h) (Or.inr ⟨by rfl, rfl⟩) (by assumption) ?_
    try simp only [Act.put, List.setIfInBounds_toArray, List.set_cons_zero, List.set_cons_succ]
    refine wpAnyH_take (i := 9) (oi := ⟨_, _, _, _, _, _⟩) (v := ?vap6027q9) rfl (by kernel_rfl) (by kernel_rfl) (by kernel_rfl) (fun _ _ _ h => h) (Or.inl ⟨by rfl, ?hap6027q9⟩) (by assumption) ?_
    case hap6027q9 => (intro w hSw; (try dsimp only at hSw); go_simp; try with_reducible rfl)
    try simp only [Act.put, List.setIfInBounds_toArray, List.set_cons_zero, List.set_cons_succ]
    refine wpAnyH_take (i := 10) (oi := ⟨_, _, _, _, _, _⟩) (v := ?vap6027q10) rfl (by kernel_rfl) (by kernel_rfl) (by kernel_rfl) (fun _ _ _ h => h) (Or.inl ⟨by rfl, ?hap6027q10⟩) (by assumption) ?_
    case hap6027q10 => (intro w hSw; (try dsimp only at hSw); go_simp; try with_reducible rfl)
    try simp only [Act.put, List.setIfInBounds_toArray, List.set_cons_zero, List.set_cons_succ]
    refine wpAnyH_done (by kernel_rfl) ?_ _
    have HB3 := Lib.hid (HB.out.trans ((show OneS W _ w.heap.size (.slice A0 zs.length c0) from by assumption).2.2.mono HB.out.size))
    go_wp2_with fail
    go_ret
    exact ⟨ret_bool HF.out, HB3.out⟩
  · have HPB := Lib.hid hp
    obtain ⟨b, hb⟩ : ∃ b, (((covTo ls ls.length : Nat) : Int) == ((setZ zs : Nat) : Int)) = b := ⟨_, rfl⟩
    have HF : Hid (b = tileB (setZ zs) ls) := by
      unfold Hid tileB; rw [hp, Bool.true_and, ← hb, Bool.eq_iff_iff, beq_iff_eq, beq_iff_eq]; omega
    clear hp
    go_enter Try.func88, Try.ntmps88
    go_wp2_with fail
    rw [← HW.out]
    refine wp_region_held_drew (S := fun w' => OneS W w' w.heap.size (.slice A0 zs.length c0)) (by kernel_rfl) (by exact HT0.out.drew) (fun hHeld => ?_)
    refine wpAnyH_take (i := 0) (oi := ⟨_, _, _, _, _, _⟩) (v := ?vap6028q0) rfl (by kernel_rfl) (by kernel_rfl) (by kernel_rfl) (fun _ _ _ h => h) (Or.inl ⟨by rfl, ?hap6028q0⟩) (by assumption) ?_
    case hap6028q0 => (intro w hSw; (try dsimp only at hSw); go_simp; try with_reducible rfl)
    try simp only [Act.put, List.setIfInBounds_toArray, List.set_cons_zero, List.set_cons_succ]
    refine wpAnyH_take (i := 1) (oi := ⟨_, _, _, _, _, _⟩) (v := ?vap6028q1) rfl (by kernel_rfl) (by kernel_rfl) (by kernel_rfl) (fun _ _ _ h => h) (Or.inl ⟨by rfl, ?hap6028q1⟩) (by assumption) ?_
    case hap6028q1 => (intro w hSw; (try dsimp only at hSw); go_simp; try with_reducible rfl)
    try simp only [Act.put, List.setIfInBounds_toArray, List.set_cons_zero, List.set_cons_succ]
    refine wpAnyH_ready (rs := [2]) (by kernel_rfl) (by simp) ?_
    refine AllReadyH.cons (o := ⟨_, _, _, _, _, _⟩) rfl (fun K hK => ?_) AllReadyH.nil
    go_simp; go_at_call 152; refine (IsPartial_yes _ _ zs ls B _ (HU.out.below ((HB.out.trans (hHeld.2.2.mono HB.out.size)).mono hB)) (HV.out.below ((HB.out.trans (hHeld.2.2.mono HB.out.size)).mono hB)) (Nat.le_trans hB (Nat.le_trans HB.out.size hHeld.2.1)) HOK.out).mono ?_; rintro e w3 ⟨rfl, hb3⟩; rw [HPB.out]
    refine hK.out _ _ (by exact OneS.keep hb3 L1.out (by assumption)) (fun hHeld => ?_)
    clear hK K
    try simp only [Act.put, List.setIfInBounds_toArray, List.set_cons_zero, List.set_cons_succ]
    refine wpAnyH_take (i := 3) (oi := ⟨_, _, _, _, _, _⟩) (v := ?vap6028q3) rfl (by kernel_rfl) (by kernel_rfl) (by kernel_rfl) (fun _ _ _ h => h) (Or.inl ⟨by rfl, ?hap6028q3⟩) (by assumption) ?_
    case hap6028q3 => (intro w hSw; (try dsimp only at hSw); go_simp; try with_reducible rfl)
    try simp only [Act.put, List.setIfInBounds_toArray, List.set_cons_zero, List.set_cons_succ]
    refine wpAnyH_take (i := 4) (oi := ⟨_, _, _, _, _, _⟩) (v := ?vap6028q4) rfl (by kernel_rfl) (by kernel_rfl) (by kernel_rfl) (fun _ _ _ h => h) (Or.inl ⟨by rfl, ?hap6028q4⟩) (by assumption) ?_
    case hap6028q4 => (intro w hSw; (try dsimp only at hSw); go_simp; try with_reducible rfl)
    try simp only [Act.put, List.setIfInBounds_toArray, List.set_cons_zero, List.set_cons_succ]
    refine wpAnyH_take (i := 6) (oi := ⟨_, _, _, _, _, _⟩) (v := ?vap6028q6) rfl (by kernel_rfl) (by kernel_rfl) (by kernel_rfl) (fun _ _ _ h => h) (Or.inl ⟨by rfl, ?hap6028q6⟩) (by assumption) ?_
    case hap6028q6 => (intro w hSw; (try dsimp only at hSw); go_simp; try with_reducible rfl)
    try simp only [Act.put, List.setIfInBounds_toArray, List.set_cons_zero, List.set_cons_succ]
    refine wpAnyH_ready (rs := [5]) (by kernel_rfl) (by simp) ?_
    refine AllReadyH.cons (o := ⟨_, _, _, _, _, _⟩) rfl (fun K hK => ?_) AllReadyH.nil
    go_simp; go_at_call 105; refine (covered_any _ ls B _ (HV.out.below ((HB.out.trans (hHeld.2.2.mono HB.out.size)).mono hB)) (Nat.le_trans hB (Nat.le_trans HB.out.size hHeld.2.1))).mono ?_; rintro e w3 ⟨rfl, hb3⟩
    refine hK.out _ _ (by exact OneS.keep hb3 L1.out (by assumption)) (fun hHeld => ?_)
    clear hK K
    try simp only [Act.put, List.setIfInBounds_toArray, List.set_cons_zero, List.set_cons_succ]
    refine wpAnyH_ready (rs := [7]) (by kernel_rfl) (by simp) ?_
    refine AllReadyH.cons (o := ⟨_, _, _, _, _, _⟩) rfl (fun K hK => ?_) AllReadyH.nil
    go_simp; go_at_call 70; refine (rset_any _ zs B _ (HU.out.below ((HB.out.trans (hHeld.2.2.mono HB.out.size)).mono hB)) (Nat.le_trans hB (Nat.le_trans HB.out.size hHeld.2.1)) HOK.out).mono ?_; rintro e w3 ⟨rfl, hb3⟩
    refine hK.out _ _ (by exact OneS.keep hb3 L1.out (by assumption)) (fun hHeld => ?_)
    clear hK K
    try simp only [Act.put, List.setIfInBounds_toArray, List.set_cons_zero, List.set_cons_succ]
    refine wpAnyH_take (i := 8) (oi := ⟨_, _, _, _, _, _⟩) (v := ?vap6028q8) rfl (by kernel_rfl) (by kernel_rfl) (by kernel_rfl) (fun _ _ _ h => h) (Or.inl ⟨by rfl, ?hap6028q8⟩) (by assumption) ?_
    case hap6028q8 => (intro w hSw; (try dsimp only at hSw); go_simp; try with_reducible rfl)
    try simp only [Act.put, List.setIfInBounds_toArray, List.set_cons_zero, List.set_cons_succ]
    refine wpAnyH_take (i := 9) (oi := ⟨_, _, _, _, _, _⟩) (v := ?vap6028q9) rfl (by kernel_rfl) (by kernel_rfl) (by kernel_rfl) (fun _ _ _ h => h) (Or.inl ⟨by rfl, ?hap6028q9⟩) (by assumption) ?_
    case hap6028q9 => (intro w hSw; (try dsimp only at hSw); go_simp; try with_reducible rfl)
    try simp only [Act.put, List.setIfInBounds_toArray, List.set_cons_zero, List.set_cons_succ]
    refine wpAnyH_take (i := 10) (oi := ⟨_, _, _, _, _, _⟩) (v := ?vap6028q10) rfl (by kernel_rfl) (by kernel_rfl) (by kernel_rfl) (fun _ _ _ h => h) (Or.inl ⟨by rfl, ?hap6028q10⟩) (by assumption) ?_
    case hap6028q10 => (intro w hSw; (try dsimp only at hSw); go_simp; try with_reducible rfl)
    try simp only [Act.put, List.setIfInBounds_toArray, List.set_cons_zero, List.set_cons_succ]
    refine wpAnyH_done (by kernel_rfl) ?_ _
    have HB3 := Lib.hid (HB.out.trans ((show OneS W _ w.heap.size (.slice A0 zs.length c0) from by assumption).2.2.mono HB.out.size))
    go_wp2_with fail
    go_ret
    exact ⟨ret_bool HF.out, HB3.out⟩
end Go.Proofs.Ytiecphhenpapoaa
