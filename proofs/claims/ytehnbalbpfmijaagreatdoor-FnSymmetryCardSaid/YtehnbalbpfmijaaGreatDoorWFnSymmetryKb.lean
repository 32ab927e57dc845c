/- What the claim's walk rests on: parts WFnSymmetry. -/
import Derived.Test.YtehnbalbpfmijaaGreatDoorKb13
import Derived.Test.YtehnbalbpfmijaaGreatDoorKb9
import Derived.Test.YtehnbalbpfmijaaGreatDoorFrameBKb
namespace Go.Proofs.YtehnbalbpfmijaaGreatDoor
open Go.RowKit
set_option linter.unusedVariables false

def fxTo (f : Nat → Bool → Nat) : Nat → Nat
  | 0 => 0
  | k + 1 => fxTo f k + f k false + f k true

set_option maxRecDepth 100000 in
set_option maxHeartbeats 4000000 in
theorem walkFnSymmetry (u : Value) (n : Nat) (w : World) (hu : RdU w w.heap.size u n) :
    Calls Tryz.prog 3 #[u] w fun e w' => e = .returned (.bool true) ∧ Below w.heap.size w w' := by
  have HU := Lib.hid hu
  clear hu
  by_cases c1 : (1048576 : Int) < (n : Int)
  · go_enter Tryz.func3, Tryz.ntmps3
    go_wp2_with fail
    refine (big_any _ n _ _ HU.out).mono ?_
    rintro e w1 ⟨rfl, rfl⟩
    go_wp2_with fail
    go_ret
    exact ⟨rfl, Below.refl _ _⟩
  · go_enter Tryz.func3, Tryz.ntmps3
    go_wp2_with fail
    refine (big_any _ n _ _ HU.out).mono ?_
    rintro e w0 ⟨rfl, rfl⟩
    go_wp2_with fail
    refine (DrawSqY_any _ n _ _ HU.out (Nat.le_refl _)).mono ?_
    rintro e w2 ⟨z, ls, u2, hs, ht, rfl, ho2, hb2⟩
    have HB2 := Lib.hid hb2
    have HR2 := Lib.hid (ho2.rd okDomino)
    obtain ⟨A2, k2, rfl, q1, q2, _⟩ := ho2.rd okDomino
    unfold maxLen at q2
    have hfl : ∀ l, Til (sqR z) l → fltB z z l = true := fun l h => by rw [flt_sq hs, til_of h]
    have HTL : ∀ k, Til (sqR z) (trnK (z : Int) ls k) := fun k => by
      induction k with
      | zero => exact ht
      | succ k ih => exact (mov_til hs true ih).1
    have HTK : Hid (∀ k v V, RdF elDomino V V.heap.size v (trnK (z : Int) ls k) → Calls Tryz.prog 6 #[.int .i64 (z : Int), v] V (RetTiling V true (trnK (z : Int) ls (k + 1)))) := fun k v V h => by
      have h1 := TurnTiling_any (z : Int) v _ V.heap.size V h (Nat.le_refl _)
      rw [hfl _ (HTL k)] at h1
      exact h1
    have HM1 : Hid (∀ v V, RdF elDomino V V.heap.size v ls → Calls Tryz.prog 7 #[.int .i64 (z : Int), v] V (RetTiling V true (movZ false (z : Int) ls))) := fun v V h => by
      have h1 := MirrorTiling_any (z : Int) v _ V.heap.size V h (Nat.le_refl _)
      rw [hfl _ ht] at h1
      exact h1
    have HM2 : Hid (∀ v V, RdF elDomino V V.heap.size v (movZ false (z : Int) ls) → Calls Tryz.prog 7 #[.int .i64 (z : Int), v] V (RetTiling V true ls)) := fun v V h => by
      have h1 := MirrorTiling_any (z : Int) v _ V.heap.size V h (Nat.le_refl _)
      rw [hfl _ (mov_til hs false ht).1, mirror_two hs ht] at h1
      exact h1
    have HT0 : Hid (trnK (z : Int) ls 0 = ls) := rfl
    have HT4 : Hid (trnK (z : Int) ls 4 = ls) := turn_four hs ht
    have hok := rectZ_ok z z (by omega) (by omega)
    have HIT : Hid (∀ u v V, RdI V V.heap.size u (rectZ z z) → RdF elDomino V V.heap.size v (trnK (z : Int) ls 1) → Calls Tryz.prog 11 #[.agg #[u], v] V fun e w' => e = .returned (.bool true) ∧ Below V.heap.size V w') := fun u v V h1 h2 => by
      have h3 := specIsTiling_yes u v (rectZ z z) _ V.heap.size V h1 h2 (Nat.le_refl _) hok
      have h4 : sTileB (setZ (rectZ z z)) (trnK (z : Int) ls 1) = true := by
        have := til_of (HTL 1)
        unfold sqR at this
        exact this
      rw [h4] at h3
      exact h3
    have HRC := Lib.hid (Rectangle_yes z z (by omega) (by omega))
    have hz8 : 2 ≤ z ∧ z ≤ 6 := by omega
    generalize rectZ z z = rz at *
    generalize movZ false (z : Int) ls = ml at *
    obtain ⟨tk, HTE⟩ : ∃ tk, Hid (tk = trnK (z : Int) ls) := ⟨_, rfl⟩
    rw [← HTE.out] at HTK HT0 HT4 HIT
    clear HTE HTL hfl ht hs ho2 hb2 hok
    have HTU := Lib.hid (HTK.out 0 (.slice A2 ls.length k2) w2 (by rw [HT0.out]; exact HR2.out))
    go_wp2_with fail
    refine HTU.out.mono ?_
    rintro e w3 ⟨u3, rfl, ho3, hb3⟩
    have HB3 := Lib.hid (HB2.out.trans (hb3.mono HB2.out.size))
    have HR3 := Lib.hid ((HR2.out.below hb3).more hb3.size)
    have HT3 := Lib.hid (ho3.rd okDomino)
    obtain ⟨A3, k3, rfl, _, _, _⟩ := ho3.rd okDomino
    clear ho3 hb3 HTU
    go_wp2_with fail
    refine (HM1.out _ w3 HR3.out).mono ?_
    rintro e w4 ⟨u4, rfl, ho4, hb4⟩
    have HB4 := Lib.hid (HB3.out.trans (hb4.mono HB3.out.size))
    have HR4 := Lib.hid ((HR3.out.below hb4).more hb4.size)
    have HT4' := Lib.hid ((HT3.out.below hb4).more hb4.size)
    have HML4 := Lib.hid (ho4.rd okDomino)
    obtain ⟨A4, k4, rfl, _, _, _⟩ := ho4.rd okDomino
    clear ho4 hb4
    go_wp2_with fail
    go_loopw [6, 9, 10] (fun f x i wr => ∃ (k : Nat) (v : Value), k ≤ 3 ∧ i = .int .i64 (k : Int) ∧ v = x ∧ f = .bool true ∧ Hid (RdF elDomino wr wr.heap.size v (tk (k + 1))) ∧ Hid (Below w4.heap.size w4 wr)) (fun _ _ i _ => 3 - (intOf i).toNat)
    case atStart => exact ⟨0, _, by omega, rfl, rfl, rfl, HT4', Below.refl _ _⟩
    case round =>
      obtain ⟨k, v, hk, rfl, rfl, rfl, HR, HB⟩ := hrel
      obtain ⟨A5, k5, rfl, _, _, _⟩ := id HR.out
      by_cases hlt : k < 3
      · have htt : decide ((k : Int) < 3) = true := by simp only [decide_eq_true_eq]; omega
        have hk0 : (0 : Int) ≤ (k : Int) := by omega
        have HTU := Lib.hid (HTK.out (k + 1) _ wr HR.out)
        go_wp2_with fail
        refine HTU.out.mono ?_
        rintro e w6 ⟨u6, rfl, ho6, hb6⟩
        have HR6 := Lib.hid (ho6.rd okDomino)
        have HB6 := Lib.hid (HB.out.trans (hb6.mono HB.out.size))
        obtain ⟨A6, k6, rfl, _, _, _⟩ := ho6.rd okDomino
        clear ho6 hb6 HTU
        go_wp2_with fail
        go_roundw
        case rel => exact ⟨k + 1, _, by omega, by go_num, rfl, rfl, HR6, HB6⟩
        case measure => simp [intOf]; omega
      · obtain rfl : k = 3 := by omega
        replace HR : Hid (RdF elDomino wr wr.heap.size (.slice A5 (tk 4).length k5) (tk 4)) := HR.out
        have HBX := Lib.hid (HB4.out.trans (HB.out.mono HB4.out.size))
        have HR5 := Lib.hid ((HR4.out.below HB.out).more HB.out.size)
        have HT5 := Lib.hid ((HT4'.out.below HB.out).more HB.out.size)
        have HML5 := Lib.hid ((HML4.out.below HB.out).more HB.out.size)
        go_wp2_with fail
        refine (HM2.out _ wr HML5.out).mono ?_
        rintro e w7 ⟨u7, rfl, ho7, hb7⟩
        have HB7 := Lib.hid (HBX.out.trans (hb7.mono HBX.out.size))
        have HR7 := Lib.hid ((HR5.out.below hb7).more hb7.size)
        have HX7 := Lib.hid ((HR.out.below hb7).more hb7.size)
        have HT7 := Lib.hid ((HT5.out.below hb7).more hb7.size)
        have HY7 := Lib.hid (ho7.rd okDomino)
        obtain ⟨A7, k7, rfl, _, _, _⟩ := ho7.rd okDomino
        have HU7 := Lib.hid (HU.out.below HB7.out)
        clear ho7 hb7 HML5 HR5 HT5 HBX HR HB HM1 HM2 HTK
        go_wp2_with fail
        refine (at_any _ n _ 0 _ HU7.out (by omega) (by omega)).mono ?_
        rintro e w' ⟨z0, z00, z01, rfl, rfl⟩
        obtain ⟨s, hsz⟩ : ∃ s : Nat, 2 + 2 * (z0 % 2) = (s : Int) := ⟨(2 + 2 * (z0 % 2)).toNat, by omega⟩
        have hs24 : s = 2 ∨ s = 4 := by omega
        have hw1 : IntKind.i64.wrap (2 * (z0 % 2)) = 2 * (z0 % 2) := IntWalk.i64_in _ (by omega)
        have hw2 : IntKind.i64.wrap (2 + 2 * (z0 % 2)) = (s : Int) := by rw [IntWalk.i64_in _ (by omega)]; exact hsz
        obtain ⟨n1, n2, n3, n4⟩ := sym_nums hs24
        have HCF := Lib.hid (fun t ht m V => CountFixed_sq s hs24 t ht m V)
        have HCC := Lib.hid (fun V => CountClasses_sq s hs24 V)
        have HRT : Hid (∀ V, Calls Tryz.prog 13 #[.int .i64 (s : Int), .int .i64 (s : Int)] V fun e w' => e = .returned (.int .i64 (fixN s 0 false : Nat)) ∧ Below V.heap.size V w') := fun V => by
          have := specRectangleCount_sq s (by omega) V
          rwa [← n1] at this
        clear n1
        generalize clsN s = cn at *
        obtain ⟨fx, HFX⟩ : ∃ fx, Hid (fx = fixN s) := ⟨_, rfl⟩
        rw [← HFX.out] at HCF HRT n2 n3
        have hf4 : fxTo fx 4 = 8 * cn := by rw [← n3]; simp only [fxTo]; omega
        have hfle : ∀ k, fxTo fx k ≤ 600 * k := fun k => by
          induction k with
          | zero => exact Nat.le_refl _
          | succ k ih => have h1 := n2 k false; have h2 := n2 k true; rw [fxTo]; omega
        have HFS : Hid (∀ k, fxTo fx (k + 1) = fxTo fx k + fx k false + fx k true) := fun _ => rfl
        have HF0 : Hid (fxTo fx 0 = 0) := rfl
        obtain ⟨fs, HFSE⟩ : ∃ fs, Hid (fs = fxTo fx) := ⟨_, rfl⟩
        rw [← HFSE.out] at HFS HF0 hf4 hfle
        have HN2 := Lib.hid n2; have HLE := Lib.hid hfle; have HF4 := Lib.hid hf4
        clear HFX HFSE n2 n3 hf4 hfle
        go_wp2_with fail
        go_loopw [14, 15] (fun a i wr => ∃ k : Nat, k ≤ 4 ∧ i = .int .i64 (k : Int) ∧ a = .int .i64 (fs k : Nat) ∧ Hid (Below w7.heap.size w7 wr)) (fun _ i _ => 4 - (intOf i).toNat)
        case atStart => exact ⟨0, by omega, rfl, by rw [HF0.out]; rfl, Below.refl _ _⟩
        case round =>
          obtain ⟨k, hk, rfl, rfl, HB⟩ := hrel
          by_cases hlt : k < 4
          · have htt : decide ((k : Int) < 4) = true := by simp only [decide_eq_true_eq]; omega
            have hk0 : (0 : Int) ≤ (k : Int) := by omega
            have HC1 := Lib.hid (fun V => HCF.out k (by omega) false V)
            have HC2 := Lib.hid (fun V => HCF.out k (by omega) true V)
            have hl0 := HLE.out k; have hl1 := HN2.out k false; have hl2 := HN2.out k true
            have HSK := Lib.hid (HFS.out k)
            generalize fx k false = p at *
            generalize fx k true = q at *
            generalize fs k = r at *
            have hv1 : IntKind.i64.wrap ((r : Int) + (p : Int)) = (r : Int) + (p : Int) := IntWalk.i64_in _ (by omega)
            have hv2 : IntKind.i64.wrap ((r : Int) + (p : Int) + (q : Int)) = (r : Int) + (p : Int) + (q : Int) := IntWalk.i64_in _ (by omega)
            go_wp2_with fail
            refine (HC1.out _).mono ?_
            rintro e w8 ⟨rfl, hb8⟩
            have HB8 := Lib.hid (HB.out.trans (hb8.mono HB.out.size))
            clear hb8
            go_wp2_with fail
            refine (HC2.out _).mono ?_
            rintro e w9 ⟨rfl, hb9⟩
            have HB9 := Lib.hid (HB8.out.trans (hb9.mono HB8.out.size))
            clear hb9
            go_wp2_with fail
            go_roundw
            case rel => exact ⟨k + 1, by omega, by go_num, by rw [HSK.out]; go_num, HB9⟩
            case measure => simp [intOf]; omega
          · obtain rfl : k = 4 := by omega
            have HFF := HF4.out
            have hcn : cn ≤ 9 := n4
            have hv8 : IntKind.i64.wrap (8 * (cn : Int)) = 8 * (cn : Int) := IntWalk.i64_in _ (by omega)
            have hfin : (((fs 4 : Nat) : Int) == 8 * (cn : Int)) = true := by rw [HFF, beq_iff_eq]; omega
            have HSD1 := Lib.hid (fun u v V h1 h2 => specSameD_any u v (tk 4) ls V.heap.size V h1 h2 (Nat.le_refl _))
            have HSD2 := Lib.hid (fun u v V h1 h2 => specSameD_any u v ls ls V.heap.size V h1 h2 (Nat.le_refl _))
            rw [decide_eq_true HT4.out] at HSD1
            rw [decide_eq_true (rfl : ls = ls)] at HSD2
            have HBW := Lib.hid (HB7.out.trans (HB.out.mono HB7.out.size))
            have HRW := Lib.hid ((HR7.out.below HB.out).more HB.out.size)
            have HXW := Lib.hid ((HX7.out.below HB.out).more HB.out.size)
            have HTW := Lib.hid ((HT7.out.below HB.out).more HB.out.size)
            have HYW := Lib.hid ((HY7.out.below HB.out).more HB.out.size)
            generalize fs 4 = f4 at *
            have HC0 := Lib.hid (fun V => HCF.out 0 (by omega) false V)
            generalize fx 0 false = f0 at *
            clear HFF HF4 n4 HB hlt HR7 HX7 HT7 HY7
            go_wp2_with fail
            refine (HSD1.out _ _ _ HXW.out HRW.out).mono ?_
            rintro e w8 ⟨rfl, hd8⟩
            have hb8 := hd8.below wr.heap.size
            have HB8 := Lib.hid (HBW.out.trans (hb8.mono HBW.out.size))
            have HR8 := Lib.hid ((HRW.out.below hb8).more hb8.size)
            have HT8 := Lib.hid ((HTW.out.below hb8).more hb8.size)
            have HY8 := Lib.hid ((HYW.out.below hb8).more hb8.size)
            clear hd8 hb8 HXW HRW HTW HYW
            go_wp2_with fail
            refine (HSD2.out _ _ _ HY8.out HR8.out).mono ?_
            rintro e w9 ⟨rfl, hd9⟩
            have hb9 := hd9.below w8.heap.size
            have HB9 := Lib.hid (HB8.out.trans (hb9.mono HB8.out.size))
            have HT9 := Lib.hid ((HT8.out.below hb9).more hb9.size)
            clear hd9 hb9 HR8 HT8 HY8
            go_wp2_with fail
            refine (HRC.out _).mono ?_
            rintro e w10 ⟨u10, rfl, hr10, hb10⟩
            have HB10 := Lib.hid (HB9.out.trans (hb10.mono HB9.out.size))
            have HI10 := Lib.hid (HIT.out u10 _ w10 hr10 ((HT9.out.below hb10).more hb10.size))
            clear hr10 hb10 HT9
            go_wp2_with fail
            refine HI10.out.mono ?_
            rintro e w11 ⟨rfl, hb11⟩
            have HB11 := Lib.hid (HB10.out.trans (hb11.mono HB10.out.size))
            clear hb11 HI10
            go_wp2_with fail
            refine (HC0.out _).mono ?_
            rintro e w12 ⟨rfl, hb12⟩
            have HB12 := Lib.hid (HB11.out.trans (hb12.mono HB11.out.size))
            clear hb12
            go_wp2_with fail
            refine (HRT.out _).mono ?_
            rintro e w13 ⟨rfl, hb13⟩
            have HB13 := Lib.hid (HB12.out.trans (hb13.mono HB12.out.size))
            clear hb13
            go_wp2_with fail
            refine (HCC.out _).mono ?_
            rintro e w14 ⟨rfl, hb14⟩
            have HB14 := Lib.hid (HB13.out.trans (hb14.mono HB13.out.size))
            clear hb14
            go_wp2_with fail
            go_ret
            exact ⟨rfl, HB14.out⟩
end Go.Proofs.YtehnbalbpfmijaaGreatDoor
