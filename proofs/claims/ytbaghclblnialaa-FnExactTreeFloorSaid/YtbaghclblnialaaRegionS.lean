/- Contracts of eqRegion (both sides read as one list), markRegion, heldRegion. -/
import Derived.Test.YtbaghclblnialaaMarkS
import Derived.Test.YtbaghclblnialaaIntS
namespace Go.Proofs.Ytbaghclblnialaa
open Go.RowKit

theorem eqIntS_same (u v : Value) (xs : List Int) (B C : Nat) (w : World) (hu : RdI w B u xs) (hv : RdI w C v xs) :
    Calls Try.prog 36 #[u, v] w fun e w' => e = .returned (.bool true) ∧ Drawn w w' :=
  (eqIntS_any u v xs xs B C w hu hv).mono fun _ _ ⟨he, hd⟩ => ⟨by rw [he]; simp, hd⟩

theorem eqRegion_self (u v : Value) (xs : List Int) (B C : Nat) (w : World) (hu : RdI w B u xs) (hv : RdI w C v xs) (hB : B ≤ w.heap.size) (hC : C ≤ w.heap.size) :
    Calls Try.prog 39 #[.agg #[u], .agg #[v]] w fun e w' => e = .returned (.bool true) ∧ Below w.heap.size w w' := by
  have HU := Lib.hid hu; have HV := Lib.hid hv
  obtain ⟨A, c, rfl, _⟩ := hu
  obtain ⟨A', c', rfl, _⟩ := hv
  have hb : ∀ o1 o2, Below w.heap.size w ((w.alloc o1).alloc o2) := fun o1 o2 => ((Below.refl _ _).alloc (Nat.le_refl _) _).alloc (by simp) _
  have HB := Lib.hid hb
  clear hb
  go_enter Try.func39, Try.ntmps39
  go_wp2_with fail
  refine (eqIntS_same _ _ xs _ _ _ (HU.out.below ((HB.out _ _).mono hB)) (HV.out.below ((HB.out _ _).mono hC))).mono ?_
  rintro e w1 ⟨rfl, hd⟩
  go_wp2_with fail
  go_ret
  exact ⟨rfl, (HB.out _ _).trans (hd.below _)⟩

theorem markRegion_any (v : Value) (zs : List Int) (lo : Nat) (k : Int) (w : World) (h : OwnI w lo v zs) (hl : zs.length ≤ 1099511627776) (h1 : 0 ≤ k) (h2 : k ≤ 1099511627776) :
    Calls Try.prog 40 #[.agg #[v], .int .i64 k] w (MarkPost w lo v zs.length k) := by
  obtain ⟨A, c, hv, _⟩ := h.rd
  have HH := Lib.hid h
  have hlt := Lib.hid h.lt
  clear h
  have HV := Lib.hid hv
  rw [hv] at HH hlt ⊢
  clear hv
  go_enter Try.func40, Try.ntmps40
  go_wp2_with fail
  refine (markIntS_any _ zs lo k _ (HH.out.below ((Below.refl _ _).alloc (Nat.le_refl _) _)) hl h1 h2).mono ?_
  rintro e w1 ⟨rfl, ho, hg⟩
  go_wp2_with fail
  go_ret
  exact ⟨rfl, ho, ⟨hg.os, hg.tape, hg.output, Nat.le_trans (by simp) hg.size, fun i hi hne => (hg.block i (by simp; omega) hne).trans (Below.heap_alloc _ _ _ hi)⟩⟩

theorem heldRegion_any (v : Value) (n : Nat) (k : Int) (B : Nat) (w : World) (h : RdI w B v (iota k n)) (hB : B ≤ w.heap.size) (hl : n ≤ 1099511627776) (h1 : 0 ≤ k) (h2 : k ≤ 1099511627776) :
    Calls Try.prog 41 #[.agg #[v], .int .i64 k] w fun e w' => e = .returned (.int .i64 (k + (n : Int))) ∧ Below w.heap.size w w' := by
  have HH := Lib.hid h
  obtain ⟨A, c, rfl, _⟩ := h
  go_enter Try.func41, Try.ntmps41
  go_wp2_with fail
  refine (heldIntS_any _ n k B _ (HH.out.below ((Below.refl _ _).alloc hB _)) hl h1 h2).mono ?_
  rintro e w1 ⟨rfl, rfl⟩
  go_wp2_with fail
  go_ret
  exact ⟨rfl, (Below.refl _ _).alloc (Nat.le_refl _) _⟩
end Go.Proofs.Ytbaghclblnialaa
