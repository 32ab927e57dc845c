/- What the claim's walk rests on: parts FrameB. -/
import Derived.Test.YtehnbalbpfmijaaGreatDoorFrame
import Derived.Test.YtehnbalbpfmijaaGreatDoorKb13
namespace Go.Proofs.YtehnbalbpfmijaaGreatDoor
open Go.ChangeShapes Go.WideShapes Go.ChangeAt Go.RowKit Go.Deep

section
variable {H : Type} {enc : TypeId × Value → H} {P : Program} {w : World} {t e : TypeId} {v : Value} {d : DataW H} {p : List MemPlace}
theorem open_byteS (ht : P.underlying t = some (.slice e)) (he : P.underlying e = some (.int .u8)) (hce : P.cellsOf e = 1) (hv : Value.okWide P w .any 0 t v)
    (h : DataW.Trod enc P w 0 (fun _ => true) true t v d p) : ∃ n, RdU w w.heap.size v n := by
  obtain ⟨a0, len, cap, rfl⟩ := okWide_slice ht hv
  obtain ⟨fuel, hf⟩ := h
  rcases open_ints ht he hce hf with ⟨hcs, hx⟩ | ⟨a, len', cap', zs, hcs, _, hl, hm, hz, hx, hcell, hwz⟩
  · simp [Value.cells] at hcs
    obtain ⟨rfl, rfl, rfl⟩ := hcs
    exact ⟨0, none, 0, rfl, Nat.le_refl _, Nat.zero_le _, fun j hj => absurd hj (by omega)⟩
  · simp [Value.cells] at hcs
    obtain ⟨rfl, rfl, rfl⟩ := hcs
    simp only [if_true] at hz
    refine ⟨len, some a, cap, rfl, by omega, hm, fun j hj => ?_⟩
    have hj' : j < zs.length := by omega
    have hc := hcell j hj'
    have hw := hwz (zs.getD j 0) (by rw [List.getD_eq_getElem?_getD, List.getElem?_eq_getElem hj']; exact List.getElem_mem hj')
    have hr : 0 ≤ zs.getD j 0 ∧ zs.getD j 0 ≤ 255 := by
      generalize zs.getD j 0 = z at *
      have h1 := hw
      simp [Lit.wf, IntKind.min, IntKind.max, IntKind.signed, IntKind.bits] at h1
      omega
    exact ⟨a, _, rfl, by have := World.block_lt_of_cell? w _ hc; rwa [addBlock] at this, hr.1, hr.2, hc⟩
end

theorem big_any (v : Value) (n B : Nat) (w : World) (h : RdU w B v n) :
    Calls Tryz.prog 4 #[v] w fun e w' => e = .returned (.bool (decide ((1048576 : Int) < (n : Int)))) ∧ w = w' := by
  obtain ⟨A, c, rfl, h1, h2, h3⟩ := h
  unfold maxLen at h2
  go_enter Tryz.func4, Tryz.ntmps4
  go_wp2
  go_ret
  exact ⟨rfl, rfl⟩

/-- Some byte. -/
def SomeByte (w : World) (e : Ending) (w' : World) : Prop := ∃ z : Int, 0 ≤ z ∧ z ≤ 255 ∧ e = .returned (.int .i64 z) ∧ w = w'
theorem at_any (v : Value) (n B : Nat) (i : Int) (w : World) (h : RdU w B v n) (i0 : 0 ≤ i) (i1 : i ≤ 1000) :
    Calls Tryz.prog 8 #[v, .int .i64 i] w (SomeByte w) := by
  obtain ⟨A, c, rfl, h1, h2, h3⟩ := h
  unfold maxLen at h2
  rcases Nat.eq_zero_or_pos n with h0 | h0
  · subst h0
    go_enter Tryz.func8, Tryz.ntmps8
    go_wp2
    go_ret
    exact ⟨0, by omega, by omega, rfl, rfl⟩
  · have hn : ((n : Int) == 0) = false := by rw [beq_eq_false_iff_ne]; omega
    have hm0 := Int.emod_nonneg (i * 5 + 1) (show (n : Int) ≠ 0 by omega)
    have hm1 := Int.emod_lt_of_pos (i * 5 + 1) (show (0 : Int) < (n : Int) by omega)
    obtain ⟨k, hk⟩ := Int.eq_ofNat_of_zero_le hm0
    obtain ⟨ad, z, rfl, hb, z0, z1, hc⟩ := h3 k (by omega)
    rw [hk] at hm0 hm1
    go_enter Tryz.func8, Tryz.ntmps8
    go_wp2
    go_ret
    exact ⟨z, z0, z1, rfl, rfl⟩
end Go.Proofs.YtehnbalbpfmijaaGreatDoor
