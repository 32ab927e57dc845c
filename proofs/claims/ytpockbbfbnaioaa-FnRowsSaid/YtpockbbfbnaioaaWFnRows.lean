/- The walk of the law FnRows: it returns true. -/
import Derived.Test.YtpockbbfbnaioaaRowsLaw
import Derived.Test.YtpockbbfbnaioaaDrawRow
import Derived.Test.YtpockbbfbnaioaaFrameB
import Derived.Test.YtpockbbfbnaioaaLawSame
import Derived.Test.YtpockbbfbnaioaaRow
namespace Go.Proofs.Ytpockbbfbnaioaa
open Go.RowKit

theorem sum_bd : ∀ (zs : List Int), (∀ x ∈ zs, x = 0 ∨ x = 1) → 0 ≤ zs.sum ∧ zs.sum ≤ zs.length
  | [], _ => by simp
  | z :: t, h => by
    have := sum_bd t fun x hx => h x (List.mem_cons_of_mem _ hx)
    have hz := h z (List.mem_cons_self ..)
    rw [List.sum_cons, List.length_cons]
    omega

set_option maxRecDepth 100000 in
set_option maxHeartbeats 8000000 in
theorem walkFnRows (u : Value) (n : Nat) (w : World) (hu : RdU w w.heap.size u n) :
    Calls Try.prog 13 #[u] w fun e w' => e = .returned (.bool true) ∧ Below w.heap.size w w' := by
  have HU := Lib.hid hu
  clear hu
  by_cases c1 : (1048576 : Int) < (n : Int)
  · go_enter Try.func13, Try.ntmps13
    go_wp2_with fail
    refine (big_any _ n _ _ HU.out).mono ?_
    rintro e w1 ⟨rfl, rfl⟩
    go_wp2_with fail
    go_ret
    exact ⟨rfl, Below.refl _ _⟩
  · go_enter Try.func13, Try.ntmps13
    go_wp2_with fail
    refine (big_any _ n _ _ HU.out).mono ?_
    rintro e w0 ⟨rfl, rfl⟩
    go_wp2_with fail
    refine (DrawRow_any _ n _ _ HU.out (Nat.le_refl _)).mono ?_
    rintro e w1 ⟨b, m, zs, v1, hr, rfl, ho1, hb1⟩
    have hs1 := hb1.size
    obtain ⟨hF1, hF2, hF3, hF4, hF5⟩ := row_facts hr
    obtain ⟨_, hbb, hhh, hll⟩ := (rowB_iff _ _ _).1 hr
    have hpl := pathL_len b m zs hr
    have hl3 : zs.length ≤ 3 := by omega
    have HLL := Lib.hid hll
    clear hll
    have HB := Lib.hid (pathL_bits m zs)
    have hpz : pathZ b m zs = pathL m zs := by simp [pathZ, hr]
    generalize hP : pathL m zs = P at *
    have HP := Lib.hid hP; clear hP
    go_wp2_with fail
    refine (RowPath_any b m v1 zs _ _ ho1.rd (Nat.le_refl _)).mono ?_
    rintro e w2 ⟨v2, rfl, ho2, hb2⟩
    rw [hpz] at ho2
    clear hpz
    have hq2 := hb1.trans (hb2.mono hs1)
    have hs2 := hq2.size
    have ho1_2 := ho1.below hb2
    go_wp2_with fail
    refine (PathRow_any b m v2 P _ _ ho2.rd (Nat.le_refl _) (by have := hpl; omega)).mono ?_
    rintro e w3 ⟨v3, rfl, ho3, hb3⟩
    rw [hF1, if_pos rfl, hF2] at ho3
    rw [hF1]
    have hq3 := hq2.trans (hb3.mono hs2)
    have hs3 := hq3.size
    have ho1_3 := ho1_2.below hb3
    have ho2_3 := ho2.below hb3
    obtain ⟨A2, c2, rfl, k1, k2, k3⟩ := ho2_3.rd
    unfold maxLen at k2
    have HF3 := Lib.hid hF3; have HF4 := Lib.hid hF4; have HF5 := Lib.hid hF5
    have HPL := Lib.hid hpl
    clear hF1 hF2 hF3 hF4 hF5 hpl
    go_wp2_with fail
    go_loop [9, 10] (fun r i => ∃ k : Nat, k ≤ P.length ∧ i = .int .i64 k ∧ r = .int .i64 ((P.take k).sum)) (fun _ i => P.length - (intOf i).toNat)
    case atStart => exact ⟨0, Nat.zero_le _, rfl, rfl⟩
    case round =>
      obtain ⟨k, hk, rfl, rfl⟩ := hrel
      by_cases hlt : k < P.length
      · obtain ⟨ad, rfl, hbl, hc⟩ := k3.int hlt
        have hsu := sum_bd (P.take k) (fun x hx => HB.out x (List.mem_of_mem_take hx))
        have hle : ((P.take k).length : Int) ≤ k := by have := List.length_take_le k P; omega
        have hx := HB.out P[k] (List.getElem_mem hlt)
        have hpl := HPL.out
        have HN := Lib.hid (sum_take_succ P k hlt)
        have HE := Lib.hid (el_get P k hlt)
        have hx2 : 0 ≤ P[k] ∧ P[k] ≤ 1 := by omega
        clear hx
        go_wp2_with fail
        go_round
        case rel => exact ⟨k + 1, by omega, by go_num, by rw [HN.out, HE.out]⟩
        case measure => simp [intOf]; omega
      · have HK : Hid (P.take k = P) := by unfold Hid; exact List.take_of_length_le (by omega)
        rw [HK.out, HF3.out]
        have HEN : Hid ((k : Int) = (P.length : Int)) := by unfold Hid; omega
        clear HK
        go_wp2_with fail
        refine (at_any _ n _ 0 _ (HU.out.below hq3) (by omega) (by omega)).mono ?_
        rintro e w' ⟨z, z0, z1, rfl, rfl⟩
        have hbox : boxB (1 + z % 3) b m = true := (boxB_iff _ _ _).2 ⟨by omega, hbb, hhh⟩
        have HBX := Lib.hid hbox
        have h3a : 0 ≤ z % 3 ∧ z % 3 < 3 := by omega
        obtain ⟨A1, d1, rfl, l1, l2, l3⟩ := ho1_3.rd
        unfold maxLen at l2
        clear hbox
        go_wp2_with fail
        have hAcc := Acc.start (E := elInt) w3
        go_loopw [12, 13] (fun r i wr => ∃ k : Nat, k ≤ zs.length ∧ i = .int .i64 k ∧ Hid (Acc elInt w3 w3.heap.size wr r (lowZ (zs.take k)))) (fun _ i _ => zs.length - (intOf i).toNat)
        case atStart => exact ⟨0, Nat.zero_le _, rfl, hAcc⟩
        case round =>
          obtain ⟨k2, hk2, rfl, HA⟩ := hrel
          clear hAcc
          by_cases hlt2 : k2 < zs.length
          · obtain ⟨ad, rfl, hbl, hc⟩ := l3.int hlt2
            have hc2 := (HA.out.2.1.cell (p := ad.add k2) (by rw [addBlock]; exact hbl)).trans hc
            have hel := el_get zs k2 hlt2
            rw [← hel] at hc hc2
            obtain ⟨⟨x0, x1⟩, _⟩ := ((rowB_iff _ _ _).1 hr).1 k2 hlt2
            have HLT := Lib.hid (lowZ_take zs k2 hlt2)
            have hlen : (lowZ (zs.take k2)).length = k2 := by simp [lowZ]; omega
            clear hel
            by_cases hx : 1 < el zs k2
            · rw [show max 0 (el zs k2 - 1) = el zs k2 - 1 by omega] at HLT
              go_wp2_with (at_builtin; refine wpList_push okInt rfl _ _ rfl HA.out rfl (el zs k2 - 1) _ rfl _ rfl (by simp) (by omega) ?_; intro u2 w4 HA2 HG2)
              go_roundw
              case rel => exact ⟨k2 + 1, by omega, by go_num, by rw [HLT.out]; exact HA2⟩
              case measure => simp [intOf]; omega
            · rw [show max 0 (el zs k2 - 1) = 0 by omega] at HLT
              go_wp2_with (at_builtin; refine wpList_push okInt rfl _ _ rfl HA.out rfl 0 _ rfl _ rfl (by simp) (by omega) ?_; intro u2 w4 HA2 HG2)
              go_roundw
              case rel => exact ⟨k2 + 1, by omega, by go_num, by rw [HLT.out]; exact HA2⟩
              case measure => simp [intOf]; omega
          · have HK2 : Hid (zs.take k2 = zs) := by unfold Hid; exact List.take_of_length_le (by omega)
            rw [HK2.out] at HA
            have hb4 : Below w3.heap.size w3 wr := HA.out.2.1
            have hq4 := hq3.trans (hb4.mono hs3)
            have hs4 := hq4.size
            have ho4 := ownF_int.1 HA.out.1
            have HO4 := Lib.hid ho4.rd
            have HO1 := Lib.hid (ho1_3.below hb4).rd
            have HO3 := Lib.hid (ho3.below hb4).rd
            obtain ⟨hb1', hb2', hb3'⟩ := box_facts HBX.out
            have HBB1 := Lib.hid hb1'; have HBB2 := Lib.hid hb2'; have HBB3 := Lib.hid hb3'
            have hzz : (zs == zs) = true := by simp
            clear ho4 hb1' hb2' hb3' ho1_3 ho3
            have e1 : ((P.length : Int) == b + m) = true := by have := HPL.out; simp; omega
            go_wp2_with fail
            refine (lawSame_any _ _ zs zs _ _ _ HO3.out HO1.out).mono ?_
            rintro e w5 ⟨rfl, hd5⟩
            rw [hzz]
            have hb5 := hd5.below wr.heap.size
            have hq5 := hq4.trans (hb5.mono hs4)
            have hs5 := hb5.size
            have HO1_5 := Lib.hid (HO1.out.below hb5)
            have HO4_5 := Lib.hid (HO4.out.below hb5)
            go_wp2_with fail
            refine (ArePathsApart_any b m _ _ zs (lowZ zs) _ _ HO1_5.out HO4_5.out hs5).mono ?_
            rintro e w6 ⟨rfl, hb6⟩
            rw [HF4.out]
            have hq6 := hq5.trans (hb6.mono hq5.size)
            have hs6 := hb6.size
            have HO1_6 := Lib.hid (HO1_5.out.below (hb6.mono hs5))
            go_wp2_with fail
            refine (ArePathsApart_any b m _ _ zs zs _ _ HO1_6.out HO1_6.out (by omega)).mono ?_
            rintro e w7 ⟨rfl, hb7⟩
            rw [HF5.out]
            have hq7 := hq6.trans (hb7.mono hq6.size)
            go_wp2_with fail
            refine (BoxByPaths_any _ b m _).mono ?_
            rintro e w8 ⟨rfl, hb8⟩
            rw [HBB1.out]
            have hq8 := hq7.trans (hb8.mono hq7.size)
            go_wp2_with fail
            refine (specBoxCount_any _ b m _).mono ?_
            rintro e w9 ⟨rfl, hb9⟩
            have e2 : (boxZ (1 + z % 3) b m == boxZ (1 + z % 3) b m) = true := by simp
            have hq9 := hq8.trans (hb9.mono hq8.size)
            go_wp2_with fail
            refine (BoxMatrix_any _ b m _).mono ?_
            rintro e w10 ⟨v10, hi10, rfl, ho10, hx10, hb10⟩
            obtain ⟨A10, d10, rfl, _⟩ := ho10.rd.open_
            have e3 : (((bmatZ (1 + z % 3) b m).length : Int) == 1 + z % 3) = true := by rw [HBB2.out]; simp
            have hq10 := hq9.trans (hb10.mono hq9.size)
            clear ho10
            go_wp2_with fail
            refine (ChooseOf_any _ _ _).mono ?_
            rintro e w11 ⟨rfl, rfl⟩
            rw [HBB3.out]
            have e4 : (chooseZ (b + m) m == chooseZ (b + m) m) = true := by simp
            go_wp2_with fail
            refine (ChooseOf_any _ _ _).mono ?_
            rintro e w12 ⟨rfl, rfl⟩
            go_wp2_with fail
            go_ret
            exact ⟨rfl, hq10⟩
end Go.Proofs.Ytpockbbfbnaioaa
