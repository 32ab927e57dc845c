/- The walk of the law FnHeaps: it returns true. -/
import Derived.Test.YtgehollikdbapaaHeapsP
import Derived.Test.YtgehollikdbapaaHeapDraw
import Derived.Test.YtgehollikdbapaaFrameB
import Derived.Test.YtgehollikdbapaaLawSame
namespace Go.Proofs.Ytgehollikdbapaa
open Go.RowKit
set_option linter.unusedVariables false

theorem RdII.next {w w' : World} {v : Value} {z : List (List Int)} (h : RdII w w.heap.size v z) (hb : Below w.heap.size w w') : RdII w' w'.heap.size v z := (h.below hb).more hb.size
def Cel (w : World) (p : Addr) (v : Value) : Prop := p.block < w.heap.size ∧ w.cell? p = some v
theorem Cel.next {w w' : World} {p : Addr} {v : Value} (h : Cel w p v) (hb : Below w.heap.size w w') : Cel w' p v := ⟨Nat.lt_of_lt_of_le h.1 hb.size, (hb.cell h.1).trans h.2⟩

set_option maxRecDepth 100000 in
set_option maxHeartbeats 8000000 in
theorem walkFnHeaps (u : Value) (n : Nat) (w : World) (hu : RdU w w.heap.size u n) :
    Calls Try.prog 3 #[u] w fun e w' => e = .returned (.bool true) ∧ Below w.heap.size w w' := by
  have HU := Lib.hid hu
  clear hu
  by_cases c1 : (1048576 : Int) < (n : Int)
  · go_enter Try.func3, Try.ntmps3
    go_wp2_with fail
    refine (big_any _ n _ _ HU.out).mono ?_
    rintro e w1 ⟨rfl, rfl⟩
    go_wp2_with fail
    go_ret
    exact ⟨rfl, Below.refl _ _⟩
  · go_enter Try.func3, Try.ntmps3
    go_wp2_with fail
    refine (big_any _ n _ _ HU.out).mono ?_
    rintro e w0 ⟨rfl, rfl⟩
    go_wp2_with fail
    refine (DrawHeap_any _ n _ _ HU.out (Nat.le_refl _)).mono ?_
    rintro e w1 ⟨a, b, c, zss, v1, hi1, hh, rfl, ho1, hx1, hb1⟩
    obtain ⟨hbx, -, -⟩ := (heapB_iff _ _ _ _).1 hh
    obtain ⟨ha, hb, hc⟩ := hbx
    have hbox : boxB a b c = true := (boxB_iff _ _ _).2 ⟨ha, hb, hc⟩
    obtain ⟨k1, k2, k3, k4⟩ := count_facts hbox
    obtain ⟨f1, f2, f3, f4, f5, f6⟩ := full_facts hh
    have K1 := Lib.hid k1; have K2 := Lib.hid k2; have K4 := Lib.hid k4
    have F1 := Lib.hid f1; have F2 := Lib.hid f2; have F3 := Lib.hid f3; have HH := Lib.hid hh
    have HR1 := Lib.hid ho1.rd
    have HB1 := Lib.hid hb1
    clear k1 k2 k4 f1 f2 f3 hh ho1 hb1 hbox
    obtain ⟨ls, HLS⟩ : ∃ x, Hid (listHZ a b c = x) := ⟨_, rfl⟩
    obtain ⟨fz, HFZ⟩ : ∃ x, Hid (fullZ a b c zss = x) := ⟨_, rfl⟩
    rw [HFZ.out] at F1 F2 F3
    obtain ⟨gz, HGZ⟩ : ∃ x, Hid (fullZ a b c fz = x) := ⟨_, rfl⟩
    rw [HGZ.out] at F3
    rw [HLS.out] at K1 K4 k3
    go_wp2_with fail
    refine (ListHeaps_any a b c _).mono ?_
    rintro e w2 ⟨v2, hi2, rfl, hN2⟩
    rw [HLS.out] at hN2
    have HB2 := Lib.hid hN2.choose_spec.1.2.1
    have HQ2 := Lib.hid (HB1.out.trans (HB2.out.mono HB1.out.size))
    have hrd : RdN RdII w2 w2.heap.size v2 ls := hN2.rdN okRows fun _ _ _ _ _ hx => OwnM.rd hx
    obtain ⟨A2, c2, rfl, g1, g2, g3⟩ := hrd.open_
    unfold maxLen at g2
    obtain ⟨ad, s0, rfl, had, hs0, hr0⟩ := g3 0 k3
    obtain ⟨As, ns, cs⟩ := s0
    have HL2 := Lib.hid hr0
    rw [Addr.add_zero'] at hs0
    have HC2 : Hid (Cel w2 ad (.slice As ns cs)) := ⟨had, hs0⟩
    have HR2 := Lib.hid (HR1.out.next HB2.out)
    have hl0 : (0 : Int) < (ls.length : Int) := by omega
    have hl0' : decide ((ls.length : Int) > 0) = true := by simp only [decide_eq_true_eq]; omega
    have HK4 : Hid (volTo ls[0] ls[0].length = 0) := by
      have := K4.out
      rwa [show ls.getD 0 [] = ls[0] by simp [k3]] at this
    clear hN2 hrd g3 hs0 hr0 K4 had
    generalize ls[0] = l0 at *
    go_wp2_with fail
    refine (FullHeap_any a b c _ zss _ _ HR2.out (Nat.le_refl _)).mono ?_
    rintro e w3 ⟨v3, hi3, rfl, ho3, hx3, hb3⟩
    rw [HFZ.out] at ho3
    rw [HH.out]
    have HQ3 := Lib.hid (HQ2.out.trans (hb3.mono HQ2.out.size))
    have HF3 := Lib.hid ho3.rd
    have HR3 := Lib.hid (HR2.out.next hb3)
    have HL3 := Lib.hid (HL2.out.next hb3)
    have HC3 := Lib.hid (HC2.out.next hb3)
    clear ho3 hb3 HC2 HL2
    go_wp2_with fail
    refine (FullHeap_any a b c _ fz _ _ HF3.out (Nat.le_refl _)).mono ?_
    rintro e w4 ⟨v4, hi4, rfl, ho4, hx4, hb4⟩
    rw [HGZ.out] at ho4
    rw [F1.out]
    have HQ4 := Lib.hid (HQ3.out.trans (hb4.mono HQ3.out.size))
    have HG4 := Lib.hid ho4.rd
    have HF4 := Lib.hid (HF3.out.next hb4)
    have HR4 := Lib.hid (HR3.out.next hb4)
    have HL4 := Lib.hid (HL3.out.next hb4)
    have HC4 := Lib.hid (HC3.out.next hb4)
    clear ho4 hb4 HF3 HR3 HL3 HC3
    go_wp2_with fail
    refine (at_any _ n _ 0 _ (HU.out.below HQ4.out) (by omega) (by omega)).mono ?_
    rintro e w' ⟨z0, z00, z01, rfl, rfl⟩
    go_wp2_with fail
    refine (at_any _ n _ 1 _ (HU.out.below HQ4.out) (by omega) (by omega)).mono ?_
    rintro e w' ⟨z1, z10, z11, rfl, rfl⟩
    go_wp2_with fail
    refine (AddCube_any a b c _ zss (z0 % a) (z1 % b) _ _ HR4.out (Nat.le_refl _)).mono ?_
    rintro e w5 ⟨v5, hi5, rfl, ho5, hx5, hb5⟩
    have HAF : Hid (addOk a b c zss (z0 % a) (z1 % b) = true → heapB a b c (addZ a b c zss (z0 % a) (z1 % b)) = true ∧ volTo (addZ a b c zss (z0 % a) (z1 % b)) (addZ a b c zss (z0 % a) (z1 % b)).length = volTo zss zss.length + 1) := add_facts
    generalize addOk a b c zss (z0 % a) (z1 % b) = ok at *
    generalize addZ a b c zss (z0 % a) (z1 % b) = xz at *
    have HQ5 := Lib.hid (HQ4.out.trans (hb5.mono HQ4.out.size))
    have HX5 := Lib.hid ho5.rd
    have HF5 := Lib.hid (HF4.out.next hb5)
    have HG5 := Lib.hid (HG4.out.next hb5)
    have HR5 := Lib.hid (HR4.out.next hb5)
    have HL5 := Lib.hid (HL4.out.next hb5)
    have HC5 := Lib.hid (HC4.out.next hb5)
    clear ho5 hb5 HF4 HG4 HR4 HL4 HC4
    go_wp2_with fail
    refine (HeapVolume_any _ zss _ _ HR5.out).mono ?_
    rintro e w' ⟨rfl, rfl⟩
    generalize volTo zss zss.length = vol at *
    have q1 : ((ls.length : Int) == (ls.length : Int)) = true := by simp
    have q1' : (ls.length == ls.length) = true := by simp
    have q2 : (a * b * c - vol == a * b * c - vol) = true := by simp
    have q3 : (vol == vol) = true := by simp
    have q4 : (vol + 1 == vol + 1) = true := by simp
    go_wp2_with fail
    refine (BoxCount_any a b c _).mono ?_
    rintro e w6 ⟨rfl, hb6⟩
    rw [← K1.out]
    have HQ6 := Lib.hid (HQ5.out.trans (hb6.mono HQ5.out.size))
    have HX6 := Lib.hid (HX5.out.next hb6)
    have HF6 := Lib.hid (HF5.out.next hb6)
    have HG6 := Lib.hid (HG5.out.next hb6)
    have HR6 := Lib.hid (HR5.out.next hb6)
    have HL6 := Lib.hid (HL5.out.next hb6)
    have HC6 := Lib.hid (HC5.out.next hb6)
    clear hb6 HX5 HF5 HG5 HR5 HL5 HC5
    go_wp2_with fail
    refine (BoxCount_any a b c _).mono ?_
    rintro e w7 ⟨rfl, hb7⟩
    rw [← K1.out]
    have HQ7 := Lib.hid (HQ6.out.trans (hb7.mono HQ6.out.size))
    have HX7 := Lib.hid (HX6.out.next hb7)
    have HF7 := Lib.hid (HF6.out.next hb7)
    have HG7 := Lib.hid (HG6.out.next hb7)
    have HR7 := Lib.hid (HR6.out.next hb7)
    have HL7 := Lib.hid (HL6.out.next hb7)
    have HC7 := Lib.hid (HC6.out.next hb7)
    clear hb7 HX6 HF6 HG6 HR6 HL6 HC6
    go_wp2_with fail
    refine (BoxCount_any c a b _).mono ?_
    rintro e w8 ⟨rfl, hb8⟩
    rw [← K2.out, ← K1.out]
    have HQ8 := Lib.hid (HQ7.out.trans (hb8.mono HQ7.out.size))
    have HX8 := Lib.hid (HX7.out.next hb8)
    have HF8 := Lib.hid (HF7.out.next hb8)
    have HG8 := Lib.hid (HG7.out.next hb8)
    have HR8 := Lib.hid (HR7.out.next hb8)
    have HL8 := Lib.hid (HL7.out.next hb8)
    have HC8 := Lib.hid (HC7.out.next hb8)
    clear hb8 HX7 HF7 HG7 HR7 HL7 HC7
    go_wp2_with fail
    refine (IsHeap_any a b c _ zss _ _ HR8.out (Nat.le_refl _)).mono ?_
    rintro e w9 ⟨rfl, hb9⟩
    rw [HH.out]
    have HQ9 := Lib.hid (HQ8.out.trans (hb9.mono HQ8.out.size))
    have HX9 := Lib.hid (HX8.out.next hb9)
    have HF9 := Lib.hid (HF8.out.next hb9)
    have HG9 := Lib.hid (HG8.out.next hb9)
    have HR9 := Lib.hid (HR8.out.next hb9)
    have HL9 := Lib.hid (HL8.out.next hb9)
    have HC9 := Lib.hid (HC8.out.next hb9)
    clear hb9 HX8 HF8 HG8 HR8 HL8 HC8
    go_wp2_with fail
    refine (HeapVolume_any _ fz _ _ HF9.out).mono ?_
    rintro e w' ⟨rfl, rfl⟩
    rw [F2.out]
    go_wp2_with fail
    refine (HeapVolume_any _ gz _ _ HG9.out).mono ?_
    rintro e w' ⟨rfl, rfl⟩
    rw [F3.out]
    cases ok
    · skip
      obtain ⟨_, hcl⟩ := HC9.out
      go_wp2_with fail
      all_goals (try (exact absurd ‹some undef = some (Value.bool _)› (by simp [undef])))
      all_goals
        go_at_call 21
        refine (HeapVolume_any _ l0 _ _ HL9.out).mono ?_
        rintro e w' ⟨rfl, rfl⟩
        rw [HK4.out]
        go_wp2_with fail
        go_ret
        exact ⟨rfl, HQ9.out⟩
    · skip
      obtain ⟨x1, x2⟩ := HAF.out rfl
      have X1 := Lib.hid x1; have X2 := Lib.hid x2
      clear x1 x2
      go_wp2_with fail
      refine (IsHeap_any a b c _ xz _ _ HX9.out (Nat.le_refl _)).mono ?_
      rintro e w10 ⟨rfl, hb10⟩
      rw [X1.out]
      have HQ10 := Lib.hid (HQ9.out.trans (hb10.mono HQ9.out.size))
      have HX10 := Lib.hid (HX9.out.next hb10)
      have HF10 := Lib.hid (HF9.out.next hb10)
      have HG10 := Lib.hid (HG9.out.next hb10)
      have HR10 := Lib.hid (HR9.out.next hb10)
      have HL10 := Lib.hid (HL9.out.next hb10)
      have HC10 := Lib.hid (HC9.out.next hb10)
      clear hb10 HX9 HF9 HG9 HR9 HL9 HC9
      go_wp2_with fail
      refine (HeapVolume_any _ xz _ _ HX10.out).mono ?_
      rintro e w' ⟨rfl, rfl⟩
      rw [X2.out]
      obtain ⟨_, hcl⟩ := HC10.out
      go_wp2_with fail
      go_at_call 21
      refine (HeapVolume_any _ l0 _ _ HL10.out).mono ?_
      rintro e w' ⟨rfl, rfl⟩
      rw [HK4.out]
      go_wp2_with fail
      go_ret
      exact ⟨rfl, HQ10.out⟩
end Go.Proofs.Ytgehollikdbapaa
