/- What the claim's walk rests on: parts WFnFaults. -/
import Derived.Test.YtehnbalbpfmijaaKFlt9
import Derived.Test.YtehnbalbpfmijaaKFlt14
import Derived.Test.YtehnbalbpfmijaaMovSKFlt
import Derived.Test.YtehnbalbpfmijaaFrameBKFlt
namespace Go.Proofs.Ytehnbalbpfmijaa
open Go.RowKit
set_option linter.unusedVariables false

/-- A drawn tiling of a square. -/
def SqRet (w : World) (e : Ending) (w' : World) : Prop :=
  ∃ (s : Nat) (ls : List Lk) (u : Value), (s = 2 ∨ s = 4 ∨ s = 6) ∧ Til (sqR s) ls ∧ e = .returned (.tuple #[.int .i64 (s : Int), u]) ∧ OwnF elDomino w' w.heap.size u ls ∧ Below w.heap.size w w'
theorem DrawSq_any (v : Value) (n B : Nat) (w : World) (hv : RdU w B v n) (hB : B ≤ w.heap.size) :
    Calls Try.prog 15 #[v] w (SqRet w) := by
  go_enter Try.func15, Try.ntmps15
  go_wp2_with fail
  refine (new_any v n B w hv hB).mono ?_
  rintro e w1 ⟨rfl, hc1, hb1⟩
  go_wp2_with fail
  refine (l19Tiling_any _ n v w1 hc1).mono ?_
  rintro e w2 ⟨s, ls, u, hs, ht, rfl, ho, hc2, hg2⟩
  have HO := Lib.hid (ho.mono hb1.size)
  have HB := Lib.hid (below_young hb1 hg2 (Nat.le_refl _))
  obtain ⟨A, c, rfl, _, _, _⟩ := ho.rd okDomino
  have HS := Lib.hid hs
  clear hs ho hg2 hc2 hc1 hb1
  go_wp2_with fail
  refine bodyPost_ret (v := .tuple #[.int .i64 (s : Int), .slice A ls.length c]) (by simp [results, Try.results15, go_sem]) rfl ⟨s, ls, _, HS.out, ht, rfl, HO.out, HB.out⟩

set_option maxRecDepth 100000 in
set_option maxHeartbeats 4000000 in
theorem walkFnFaults (u : Value) (n : Nat) (w : World) (hu : RdU w w.heap.size u n) :
    Calls Try.prog 4 #[u] w fun e w' => e = .returned (.bool true) ∧ Below w.heap.size w w' := by
  have HU := Lib.hid hu
  clear hu
  by_cases c1 : (1048576 : Int) < (n : Int)
  · go_enter Try.func4, Try.ntmps4
    go_wp2_with fail
    refine (big_any _ n _ _ HU.out).mono ?_
    rintro e w1 ⟨rfl, rfl⟩
    go_wp2_with fail
    go_ret
    exact ⟨rfl, Below.refl _ _⟩
  · go_enter Try.func4, Try.ntmps4
    go_wp2_with fail
    refine (big_any _ n _ _ HU.out).mono ?_
    rintro e w0 ⟨rfl, rfl⟩
    go_wp2_with fail
    refine (at_any _ n _ 0 _ HU.out (by omega) (by omega)).mono ?_
    rintro e w' ⟨z0, z00, z01, rfl, rfl⟩
    go_wp2_with fail
    refine (at_any _ n _ 1 _ HU.out (by omega) (by omega)).mono ?_
    rintro e w' ⟨z1, z10, z11, rfl, rfl⟩
    obtain ⟨a, ha⟩ : ∃ a : Nat, 1 + z0 % 6 = (a : Int) := ⟨(1 + z0 % 6).toNat, by omega⟩
    obtain ⟨b, hb⟩ : ∃ b : Nat, 1 + z1 % 4 = (b : Int) := ⟨(1 + z1 % 4).toNat, by omega⟩
    have hwa : IntKind.i64.wrap (1 + z0 % 6) = (a : Int) := by rw [IntWalk.i64_in _ (by omega)]; exact ha
    have hwb : IntKind.i64.wrap (1 + z1 % 4) = (b : Int) := by rw [IntWalk.i64_in _ (by omega)]; exact hb
    obtain ⟨f1, f2, f3⟩ := flt_nums (a := a) (b := b) (by omega) (by omega)
    have HF2 := Lib.hid f2; have HF3 := Lib.hid f3
    obtain ⟨N, HN⟩ : ∃ N, Hid (cffI a b = N) := ⟨_, rfl⟩
    rw [HN.out] at f1 HF2 HF3
    have hg0 : decide (0 ≤ N) = true := by rw [decide_eq_true_eq]; exact f1
    clear f1 f2 f3
    go_wp2_with fail
    try rw [ha, hb]
    refine (CountFaultFree_any _ _ _).mono ?_
    rintro e w1 ⟨rfl, hb1⟩
    rw [HN.out]
    have HB1 := Lib.hid hb1
    clear hb1
    go_wp2_with fail
    refine (DrawSq_any _ n _ _ (HU.out.below HB1.out) HB1.out.size).mono ?_
    rintro e w2 ⟨s, ls, u2, hs, ht, rfl, ho2, hb2⟩
    have HB2 := Lib.hid (HB1.out.trans (hb2.mono HB1.out.size))
    have HR2 := Lib.hid (ho2.rd okDomino)
    obtain ⟨A2, k2, rfl, q1, q2, _⟩ := ho2.rd okDomino
    unfold maxLen at q2
    have htr := flt_turn hs ht
    have hso := flt_some hs ht
    have hfb : fltB s s ls = true := by rw [flt_sq hs, til_of ht]
    have hla : (fltZ s s s true ls).length < s := by
      have h1 : fltZ s s s true ls = fltTo true ls (s - 1) := by unfold fltZ; rw [hfb, if_pos rfl, Int.toNat_natCast]
      rw [h1]
      have := fltTo_len true ls (s - 1)
      omega
    have hlb : (fltZ s s s false ls).length < s := by
      have h1 : fltZ s s s false ls = fltTo false ls (s - 1) := by unfold fltZ; rw [hfb, if_pos rfl, Int.toNat_natCast]
      rw [h1]
      have := fltTo_len false ls (s - 1)
      omega
    have hs6 : 2 ≤ s ∧ s ≤ 6 := by omega
    have hiff : iffB s s ls = false := by
      unfold iffB
      rw [hfb]
      rw [Bool.true_and, Bool.and_eq_false_iff, decide_eq_false_iff_not, decide_eq_false_iff_not]
      omega
    have HFD := Lib.hid (fun v l V hV => FaultsDown_any (s : Int) s v l V.heap.size V hV (Nat.le_refl _))
    have HFA := Lib.hid (fun v l V hV => FaultsAcross_any (s : Int) s v l V.heap.size V hV (Nat.le_refl _))
    have HTT := Lib.hid (fun v l V hV => specTurnTiling_any (s : Int) v l V.heap.size V hV (Nat.le_refl _))
    have HIF := Lib.hid (fun v l V hV => IsFaultFree_any (s : Int) s v l V.heap.size V hV (Nat.le_refl _))
    have HD := Lib.hid (HFD.out (.slice A2 ls.length k2) ls)
    have HA := Lib.hid (HFA.out (.slice A2 ls.length k2) ls)
    have HT := Lib.hid (HTT.out (.slice A2 ls.length k2) ls)
    have HI := Lib.hid (HIF.out (.slice A2 ls.length k2) ls)
    have HD2 := Lib.hid (fun v => HFD.out v (movZ true s ls))
    rw [hiff] at HI
    generalize fltZ s s s true (movZ true s ls) = da at *
    generalize fltZ s s s true ls = db at *
    generalize fltZ s s s false ls = dc at *
    generalize movZ true s ls = tl at *
    generalize fltB s s ls = fb at *
    clear hs ht hfb hiff ho2 hb2
    have hz0 : (((db.length : Int) + (dc.length : Int)) == 0) = false := by rw [beq_eq_false_iff_ne]; omega
    have hz1 : decide ((0 : Int) < (db.length : Int) + (dc.length : Int)) = true := by rw [decide_eq_true_eq]; omega
    have hz2 : decide ((db.length : Int) < (s : Int)) = true := by rw [decide_eq_true_eq]; omega
    have hz3 : decide (db.length < s) = true := by rw [decide_eq_true_eq]; omega
    have hz4 : decide (0 < db.length + dc.length) = true := by rw [decide_eq_true_eq]; omega
    have hz5 : (db.length + dc.length == 0) = false := by rw [beq_eq_false_iff_ne]; omega
    have hl8 : db.length ≤ 6 ∧ dc.length ≤ 6 := by omega
    obtain ⟨hl81, hl82⟩ := hl8
    go_wp2_with fail
    refine (HD.out w2 HR2.out).mono ?_
    rintro e w3 ⟨u3, rfl, ho3, hb3⟩
    have HB3 := Lib.hid (HB2.out.trans (hb3.mono HB2.out.size))
    have HR3 := Lib.hid ((HR2.out.below hb3).more hb3.size)
    obtain ⟨A3, k3, rfl, _, _, _⟩ := ho3.rd
    clear ho3 hb3
    go_wp2_with fail
    refine (HA.out w3 HR3.out).mono ?_
    rintro e w4 ⟨u4, rfl, ho4, hb4⟩
    have HB4 := Lib.hid (HB3.out.trans (hb4.mono HB3.out.size))
    have HR4 := Lib.hid ((HR3.out.below hb4).more hb4.size)
    obtain ⟨A4, k4, rfl, _, _, _⟩ := ho4.rd
    clear ho4 hb4
    go_wp2_with fail
    refine (HT.out w4 HR4.out).mono ?_
    rintro e w5 ⟨u5, rfl, ho5, hb5⟩
    have HB5 := Lib.hid (HB4.out.trans (hb5.mono HB4.out.size))
    have HR5 := Lib.hid ((HR4.out.below hb5).more hb5.size)
    have HT5 := Lib.hid (ho5.rd okDomino)
    obtain ⟨A5, k5, rfl, _, _, _⟩ := ho5.rd okDomino
    clear ho5 hb5
    go_wp2_with fail
    refine (CountFaultless_any _ _ _).mono ?_
    rintro e w6 ⟨rfl, hb6⟩
    rw [← HF2.out]
    have HB6 := Lib.hid (HB5.out.trans (hb6.mono HB5.out.size))
    have HR6 := Lib.hid ((HR5.out.below hb6).more hb6.size)
    have HT6 := Lib.hid ((HT5.out.below hb6).more hb6.size)
    clear hb6
    go_wp2_with fail
    refine (CountFaultFree_any _ _ _).mono ?_
    rintro e w7 ⟨rfl, hb7⟩
    rw [← HF3.out]
    have HB7 := Lib.hid (HB6.out.trans (hb7.mono HB6.out.size))
    have HR7 := Lib.hid ((HR6.out.below hb7).more hb7.size)
    have HT7 := Lib.hid ((HT6.out.below hb7).more hb7.size)
    clear hb7
    go_wp2_with fail
    refine (HI.out w7 HR7.out).mono ?_
    rintro e w8 ⟨rfl, hb8⟩
    have HB8 := Lib.hid (HB7.out.trans (hb8.mono HB7.out.size))
    have HT8 := Lib.hid ((HT7.out.below hb8).more hb8.size)
    clear hb8
    go_wp2_with fail
    refine (HD2.out _ w8 HT8.out).mono ?_
    rintro e w9 ⟨u9, rfl, ho9, hb9⟩
    have HB9 := Lib.hid (HB8.out.trans (hb9.mono HB8.out.size))
    obtain ⟨A9, k9, rfl, _, _, _⟩ := ho9.rd
    clear ho9 hb9
    go_wp2_with fail
    refine (CountFaultFree_any ((5 : Nat) : Int) ((6 : Nat) : Int) _).mono ?_
    rintro e w10 ⟨rfl, hb10⟩
    rw [cff_56]
    have HB10 := Lib.hid (HB9.out.trans (hb10.mono HB9.out.size))
    clear hb10
    go_wp2_with fail
    go_ret
    exact ⟨rfl, HB10.out⟩
end Go.Proofs.Ytehnbalbpfmijaa
