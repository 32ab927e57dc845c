/- The walk of the law FnExactTreeFloor: it returns true. -/
import Derived.Test.YtbaghclblnialaaTreeFloorS
import Derived.Test.YtbaghclblnialaaRegionS
namespace Go.Proofs.Ytbaghclblnialaa
open Go.RowKit

theorem OwnI.grown {w w' : World} {lo : Nat} {v : Value} {zs : List Int} {row : Option Nat} (h : OwnI w lo v zs) (hg : w.grownBy w' row) (hne : ∀ k, v.ownBlock = some k → some k ≠ row) : OwnI w' lo v zs :=
  World.ownsRow.kept h hg (by
    cases e : v.ownBlock
    · exact .inl rfl
    · exact .inr (hne _ e))
theorem rowIs_below {w w' : World} {b : Nat} {t : TypeId} {n : Nat} {f : Nat → Value} (h : w.rowIs b t n f) (hb : Below w.heap.size w w') : w'.rowIs b t n f := h.of_block (hb.block _ h.lt)
theorem rowIs_grown {w w' : World} {b : Nat} {t : TypeId} {n : Nat} {f : Nat → Value} {row : Option Nat} (h : w.rowIs b t n f) (hg : w.grownBy w' row) (hne : some b ≠ row) : w'.rowIs b t n f := h.of_block (hg.block _ h.lt hne)

set_option maxHeartbeats 2000000 in
theorem walkTreeFloor (a0 : Int) (_ : (Lit.int .i64 a0).wf = true) (a1 : Int) (_ : (Lit.int .i64 a1).wf = true) (w : World) :
    Calls Try.prog 11 #[.int .i64 a0, .int .i64 a1] w fun e w' => e = .returned (.bool true) ∧ Below w.heap.size w w' := by
  have hlen : (floorZ a0 a1).length ≤ 1000 := by
    unfold floorZ
    split
    · rename_i h
      simp only [gridB, Bool.and_eq_true, inB_iff] at h
      simp [floorRows]; omega
    · simp
  go_enter Try.func11, Try.ntmps11
  go_wp2_with fail
  refine (specTreeFloor_any _ _ _).mono ?_
  rintro e w1 ⟨v0, rfl, o0, hb1⟩
  obtain ⟨A0, c0, rfl, _⟩ := o0.rd
  have R0 := Lib.hid (row_one w1 (.slice A0 (floorZ a0 a1).length c0) 45)
  have O0 := Lib.hid (o0.below ((Below.refl _ _).alloc (Nat.le_refl _) (.cells #[.slice A0 (floorZ a0 a1).length c0] 45)))
  have L0 := Lib.hid o0.lt
  clear o0
  have q1 := hb1.alloc hb1.size (.cells #[.slice A0 (floorZ a0 a1).length c0] 45)
  have s1 := hb1.size
  go_wp2_with fail
  refine (TreeFloor_any _ _ _).mono ?_
  rintro e w2 ⟨v1, rfl, o1, hb2⟩
  obtain ⟨A1, c1, rfl, _⟩ := o1.rd
  have R0 := Lib.hid ((rowIs_below R0.out hb2).alloc (.cells #[.slice A1 (floorZ a0 a1).length c1] 45))
  have O0 := Lib.hid ((O0.out.below hb2).below ((Below.refl _ _).alloc (Nat.le_refl _) (.cells #[.slice A1 (floorZ a0 a1).length c1] 45)))
  have R1 := Lib.hid (row_one w2 (.slice A1 (floorZ a0 a1).length c1) 45)
  have O1 := Lib.hid (o1.below ((Below.refl _ _).alloc (Nat.le_refl _) (.cells #[.slice A1 (floorZ a0 a1).length c1] 45)))
  have L1 := Lib.hid o1.lt
  clear o1
  have s2 : w1.heap.size + 1 ≤ w2.heap.size := by simpa using hb2.size
  have q2 := (q1.trans (hb2.mono (by simp; omega))).alloc (by omega) (.cells #[.slice A1 (floorZ a0 a1).length c1] 45)
  have k0 := R0.out.cell (i := 0) (by omega)
  have k1 := R1.out.cell (i := 0) (by omega)
  go_wp2_with fail
  clear k0 k1
  refine (eqRegion_self _ _ (floorZ a0 a1) _ _ _ O1.out.rd O0.out.rd (Nat.le_refl _) (Nat.le_refl _)).mono ?_
  rintro e w3 ⟨rfl, hb3⟩
  have R0 := Lib.hid (rowIs_below R0.out hb3)
  have R1 := Lib.hid (rowIs_below R1.out hb3)
  have O0 := Lib.hid (O0.out.below hb3)
  have O1 := Lib.hid (O1.out.below hb3)
  have s3 : w2.heap.size + 1 ≤ w3.heap.size := by simpa using hb3.size
  have q3 := q2.trans (hb3.mono (by simp; omega))
  have k1 := R1.out.cell (i := 0) (by omega)
  go_wp2_with fail
  clear k1
  refine (markRegion_any _ (floorZ a0 a1) _ 1 _ O1.out (by omega) (by omega) (by omega)).mono ?_
  rintro e w4 ⟨rfl, o1, hg4⟩
  have hl1 := L1.out
  have R0 := Lib.hid (rowIs_grown R0.out hg4 (fun e => by have := (hl1 _ e.symm).1; simp at this; omega))
  have R1 := Lib.hid (rowIs_grown R1.out hg4 (fun e => by have := (hl1 _ e.symm).2; omega))
  have O0 := Lib.hid (O0.out.grown hg4 (fun k hk e => by have h1 := (L0.out k hk).2; have h2 := (hl1 _ e.symm).1; simp at h2; omega))
  have O1 := Lib.hid o1
  clear o1
  have s4 := hg4.size
  have q4 := q3.grown hg4 (by omega) (fun k hk => by have := (hl1 k hk).1; simp at this; omega)
  clear hl1
  have k1 := R1.out.cell (i := 0) (by omega)
  go_wp2_with fail
  clear k1
  refine (heldRegion_any _ (floorZ a0 a1).length 1 _ _ O1.out.rd (Nat.le_refl _) (by omega) (by omega) (by omega)).mono ?_
  rintro e w5 ⟨rfl, hb5⟩
  have R0 := Lib.hid (rowIs_below R0.out hb5)
  have R1 := Lib.hid (rowIs_below R1.out hb5)
  have O0 := Lib.hid (O0.out.below hb5)
  have O1 := Lib.hid (O1.out.below hb5)
  have s5 := hb5.size
  have q5 := q4.trans (hb5.mono (by omega))
  have ne : ((1 : Int) + ((floorZ a0 a1).length : Int) != 1 + ((floorZ a0 a1).length : Int)) = false := by simp
  go_wp2_with fail
  refine (TreeFloor_any _ _ _).mono ?_
  rintro e w6 ⟨v2, rfl, o2, hb6⟩
  obtain ⟨A2, c2, rfl, _⟩ := o2.rd
  have R0 := Lib.hid ((rowIs_below R0.out hb6).alloc (.cells #[.slice A2 (floorZ a0 a1).length c2] 45))
  have R1 := Lib.hid ((rowIs_below R1.out hb6).alloc (.cells #[.slice A2 (floorZ a0 a1).length c2] 45))
  have O0 := Lib.hid ((O0.out.below hb6).below ((Below.refl _ _).alloc (Nat.le_refl _) (.cells #[.slice A2 (floorZ a0 a1).length c2] 45)))
  have O1 := Lib.hid ((O1.out.below hb6).below ((Below.refl _ _).alloc (Nat.le_refl _) (.cells #[.slice A2 (floorZ a0 a1).length c2] 45)))
  have R2 := Lib.hid (row_one w6 (.slice A2 (floorZ a0 a1).length c2) 45)
  have O2 := Lib.hid (o2.below ((Below.refl _ _).alloc (Nat.le_refl _) (.cells #[.slice A2 (floorZ a0 a1).length c2] 45)))
  clear o2
  have s6 := hb6.size
  have q6 := (q5.trans (hb6.mono (by omega))).alloc (by omega) (.cells #[.slice A2 (floorZ a0 a1).length c2] 45)
  have k0 := R0.out.cell (i := 0) (by omega)
  have k2 := R2.out.cell (i := 0) (by omega)
  go_wp2_with fail
  clear k0 k2
  refine (eqRegion_self _ _ (floorZ a0 a1) _ _ _ O2.out.rd O0.out.rd (Nat.le_refl _) (Nat.le_refl _)).mono ?_
  rintro e w7 ⟨rfl, hb7⟩
  have R1 := Lib.hid (rowIs_below R1.out hb7)
  have O1 := Lib.hid (O1.out.below hb7)
  have s7 : w6.heap.size + 1 ≤ w7.heap.size := by simpa using hb7.size
  have q7 := q6.trans (hb7.mono (by simp; omega))
  have k1 := R1.out.cell (i := 0) (by omega)
  go_wp2_with fail
  clear k1
  refine (heldRegion_any _ (floorZ a0 a1).length 1 _ _ O1.out.rd (Nat.le_refl _) (by omega) (by omega) (by omega)).mono ?_
  rintro e w8 ⟨rfl, hb8⟩
  go_wp2_with fail
  go_ret
  exact ⟨rfl, q7.trans (hb8.mono (by omega))⟩
end Go.Proofs.Ytbaghclblnialaa
