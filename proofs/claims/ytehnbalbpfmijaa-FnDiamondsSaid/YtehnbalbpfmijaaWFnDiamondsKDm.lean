/- What the claim's walk rests on: parts WFnDiamonds. -/
import Derived.Test.YtehnbalbpfmijaaKDm13
import Derived.Test.YtehnbalbpfmijaaFrameBKDm
import Derived.Deep.RegionHeld3
namespace Go.Proofs.Ytehnbalbpfmijaa
open Go.RowKit
set_option linter.unusedVariables false

/-- A drawn tiling of a diamond. -/
def DmRet (w : World) (e : Ending) (w' : World) : Prop :=
  ∃ (s : Nat) (ls : List Lk) (u : Value), (s = 1 ∨ s = 2 ∨ s = 3) ∧ Til (dmR s) ls ∧ e = .returned (.tuple #[.int .i64 (s : Int), u]) ∧ OwnF elDomino w' w.heap.size u ls ∧ Below w.heap.size w w'
theorem DrawDm_any (v : Value) (n B : Nat) (w : World) (hv : RdU w B v n) (hB : B ≤ w.heap.size) :
    Calls Try.prog 21 #[v] w (DmRet w) := by
  go_enter Try.func21, Try.ntmps21
  go_wp2_with fail
  refine (new_any v n B w hv hB).mono ?_
  rintro e w1 ⟨rfl, hc1, hb1⟩
  go_wp2_with fail
  refine (l17Tiling_any _ n v w1 hc1).mono ?_
  rintro e w2 ⟨s, ls, u, hs, ht, rfl, ho, hc2, hg2⟩
  have HO := Lib.hid (ho.mono hb1.size)
  have HB := Lib.hid (below_young hb1 hg2 (Nat.le_refl _))
  obtain ⟨A, c, rfl, _, _, _⟩ := ho.rd okDomino
  have HS := Lib.hid hs
  clear hs ho hg2 hc2 hc1 hb1
  go_wp2_with fail
  refine bodyPost_ret (v := .tuple #[.int .i64 (s : Int), .slice A ls.length c]) (by simp [results, Try.results21, go_sem]) rfl ⟨s, ls, _, HS.out, ht, rfl, HO.out, HB.out⟩
theorem dm_counts : (orders.all fun s => profK (dmR s) == 2 ^ (s * (s + 1) / 2)) = true := by decide +kernel
theorem dm_count {s : Nat} (hs : s = 1 ∨ s = 2 ∨ s = 3) : profZ (dmR s) = 2 ^ (s * (s + 1) / 2) := by
  have := List.all_eq_true.1 dm_counts s (mem_orders hs)
  rw [profK_eq]
  simpa using this
theorem fillTo_len (sq : List (Int × Int)) (f : Nat → Bool) : ∀ k, (fillTo sq f k).length = 2 * k
  | 0 => rfl
  | k + 1 => by rw [fillTo, List.length_append, fillTo_len sq f k]; simp; omega
theorem fillTo_ext (sq : List (Int × Int)) {f f' : Nat → Bool} : ∀ k, (∀ j, j < k → f j = f' j) → fillTo sq f k = fillTo sq f' k
  | 0, _ => rfl
  | k + 1, h => by rw [fillTo, fillTo, fillTo_ext sq k fun j hj => h j (by omega), h k (by omega)]
theorem keepB {w w' : World} {P : Addr} {u v : Value} (hb : P.block < w.heap.size) (h1 : w.cell? P = some u) (h2 : w.cell? ⟨P.block, P.off + 1, none⟩ = some v) (h : Below w.heap.size w w') : Below w.heap.size w w' ∧ w'.cell? P = some u ∧ w'.cell? ⟨P.block, P.off + 1, none⟩ = some v :=
  ⟨h, (h.cell hb).trans h1, (h.cell (p := ⟨P.block, P.off + 1, none⟩) hb).trans h2⟩
theorem keepR {w W W' : World} {b : Nat} {u : Value} (hb : b < w.heap.size) (h : Below w.heap.size w W ∧ W.cell? ⟨b, 0, none⟩ = some u) (hn : Below W.heap.size W W') : Below w.heap.size w W' ∧ W'.cell? ⟨b, 0, none⟩ = some u :=
  ⟨h.1.trans (hn.mono h.1.size), (hn.cell (p := ⟨b, 0, none⟩) (Nat.lt_of_lt_of_le hb h.1.size)).trans h.2⟩
def dcZ (n : Int) : Int := if n = 1 then 2 else if n = 2 then 8 else if n = 3 then 64 else 1024
theorem DiamondCount_num (n : Int) (h : n = 1 ∨ n = 2 ∨ n = 3 ∨ n = 4) (w : World) :
    Calls Try.prog 30 #[.int .i64 n] w fun e w' => e = .returned (.int .i64 (dcZ n)) ∧ w = w' := by
  rcases h with rfl | rfl | rfl | rfl
  · rw [show dcZ 1 = 2 from rfl]
    go_enter Try.func30, Try.ntmps30
    go_wp2_with fail
    refine (within_any _ _ _ _).mono ?_
    rintro e w0 ⟨rfl, rfl⟩
    rw [show inB (1 : Int) 1 4 = true from rfl]
    go_wp2_with fail
    go_ret
    exact ⟨rfl, rfl⟩
  · rw [show dcZ 2 = 8 from rfl]
    go_enter Try.func30, Try.ntmps30
    go_wp2_with fail
    refine (within_any _ _ _ _).mono ?_
    rintro e w0 ⟨rfl, rfl⟩
    rw [show inB (2 : Int) 1 4 = true from rfl]
    go_wp2_with fail
    go_ret
    exact ⟨rfl, rfl⟩
  · rw [show dcZ 3 = 64 from rfl]
    go_enter Try.func30, Try.ntmps30
    go_wp2_with fail
    refine (within_any _ _ _ _).mono ?_
    rintro e w0 ⟨rfl, rfl⟩
    rw [show inB (3 : Int) 1 4 = true from rfl]
    go_wp2_with fail
    go_ret
    exact ⟨rfl, rfl⟩
  · rw [show dcZ 4 = 1024 from rfl]
    go_enter Try.func30, Try.ntmps30
    go_wp2_with fail
    refine (within_any _ _ _ _).mono ?_
    rintro e w0 ⟨rfl, rfl⟩
    rw [show inB (4 : Int) 1 4 = true from rfl]
    go_wp2_with fail
    go_ret
    exact ⟨rfl, rfl⟩

set_option maxRecDepth 100000 in
set_option maxHeartbeats 2000000 in
theorem walkFnDiamonds (u : Value) (n : Nat) (w : World) (hu : RdU w w.heap.size u n) :
    Calls Try.prog 5 #[u] w fun e w' => e = .returned (.bool true) ∧ Below w.heap.size w w' := by
  have HU := Lib.hid hu
  clear hu
  by_cases c1 : (1048576 : Int) < (n : Int)
  · go_enter Try.func5, Try.ntmps5
    go_wp2_with fail
    refine (big_any _ n _ _ HU.out).mono ?_
    rintro e w1 ⟨rfl, rfl⟩
    go_wp2_with fail
    go_ret
    exact ⟨rfl, Below.refl _ _⟩
  · go_enter Try.func5, Try.ntmps5
    go_wp2_with fail
    refine (big_any _ n _ _ HU.out).mono ?_
    rintro e w0 ⟨rfl, rfl⟩
    go_wp2_with fail
    refine (DrawDm_any _ n _ _ HU.out (Nat.le_refl _)).mono ?_
    rintro e w2 ⟨s, ls, u2, hs, ht, rfl, ho2, hb2⟩
    have HB2 := Lib.hid hb2
    have HR2 := Lib.hid (ho2.rd okDomino)
    obtain ⟨A2, k2, rfl, q1, q2, _⟩ := ho2.rd okDomino
    unfold maxLen at q2
    have hfew := til_fewD ht
    obtain ⟨dg, dp, dl, dle, dc, dq, df⟩ := dm_ok hs ht
    have hs3 : 1 ≤ s ∧ s ≤ 3 := by omega
    have HGD := Lib.hid (fun v V hV => GrowDiamond_any (s : Int) v ls V.heap.size V hV (Nat.le_refl _))
    have HES := Lib.hid (fun v V hV => EmptySquares_any (s : Int) v ls V.heap.size V hV (Nat.le_refl _))
    have HDR := Lib.hid (fun V => Diamond_yes (s + 1) (by omega) V)
    have hok : regOkB (diamZ (s + 1)) = true := diam_ok (s + 1) (by omega)
    have HIP := Lib.hid (fun (v u : Value) V (hu : RdI V V.heap.size u (diamZ (s + 1))) (hV : RdF elDomino V V.heap.size v (growZ s ls)) => specIsPartial_yes u v _ _ V.heap.size V hu hV (Nat.le_refl _) hok)
    have HCC := Lib.hid (fun (u : Value) V (hu : RdI V V.heap.size u (diamZ (s + 1))) => CountCells_yes u _ V.heap.size V hu (Nat.le_refl _) hok)
    have HIT := Lib.hid (fun (v u : Value) l V (hu : RdI V V.heap.size u (diamZ (s + 1))) (hV : RdF elDomino V V.heap.size v l) => specIsTiling_yes u v _ l V.heap.size V hu hV (Nat.le_refl _) hok)
    have HEQ : Hid (setZ (diamZ (s + 1)) = dmR (s + 1)) := rfl
    rw [HEQ.out] at HIP HCC HIT
    rw [dg] at HGD
    rw [dp] at HIP
    have hgl : (growZ s ls).length ≤ 32 ∧ (esZ s ls).length ≤ 40 := by omega
    have hdl : (((esZ s ls).length : Int) != ((s + 1 : Nat) : Int) + ((ls.length : Int) - ((growZ s ls).length : Int)) / 2) = false := by rw [bne_eq_false_iff_eq]; omega
    have hdc : (((cntB (dmR (s + 1)) 64 : Nat) : Int) != 2 * ((growZ s ls).length : Int) + 4 * ((esZ s ls).length : Int)) = false := by rw [bne_eq_false_iff_eq]; omega
    have hcn : cntB (dmR (s + 1)) 64 ≤ 64 := cntB_le _ _
    have HDQ := Lib.hid dq; have HDF := Lib.hid df
    obtain ⟨s1, hss⟩ : ∃ s1 : Nat, s + 1 = s1 := ⟨_, rfl⟩
    rw [hss] at HDR hdl hdc hcn
    have hsw : IntKind.i64.wrap ((s : Int) + 1) = (s1 : Int) := by rw [IntWalk.i64_in _ (by omega)]; omega
    have hsw2 : (s : Int) + 1 = (s1 : Int) := by omega
    have hsi0 : (0 : Int) ≤ (s : Int) := by omega
    have hsi1 : (s : Int) ≤ 3 := by omega
    have hsi2 : s1 ≤ 4 := by omega
    obtain ⟨hgl1, hgl2⟩ := hgl
    clear ho2 hb2 ht hs dg dp dc dq df HEQ hok hs3 dl
    have HSS := Lib.hid hss
    generalize growZ s ls = g at *
    generalize esZ s ls = sq at *
    rw [hss] at HIP HCC HIT HDF
    clear hss
    generalize diamZ s1 = dz at *
    generalize dmR s1 = DR at *
    generalize cntB DR 64 = NC at *
    go_wp2_with fail
    refine (HGD.out _ w2 HR2.out).mono ?_
    rintro e w3 ⟨u3, rfl, ho3, hb3⟩
    have HB3 := Lib.hid (HB2.out.trans (hb3.mono HB2.out.size))
    have HR3 := Lib.hid ((HR2.out.below hb3).more hb3.size)
    have HG3 := Lib.hid (ho3.rd okDomino)
    obtain ⟨A3, k3, rfl, q3, q4, _⟩ := ho3.rd okDomino
    unfold maxLen at q4
    clear ho3 hb3
    go_wp2_with fail
    refine (HES.out _ w3 HR3.out).mono ?_
    rintro e w4 ⟨u4, rfl, ho4, hb4⟩
    have HB4 := Lib.hid (HB3.out.trans (hb4.mono HB3.out.size))
    have HG4 := Lib.hid ((HG3.out.below hb4).more hb4.size)
    have HQ4 := Lib.hid (ho4.rd okCell)
    obtain ⟨A4, k4, rfl, q5, q6, _⟩ := ho4.rd okCell
    unfold maxLen at q6
    clear ho4 hb4
    go_wp2_with fail
    try rw [hsw2]
    refine (HDR.out w4).mono ?_
    rintro e w5 ⟨u5, rfl, hr5, hb5⟩
    have HB5 := Lib.hid (HB4.out.trans (hb5.mono HB4.out.size))
    obtain ⟨V6, hV6, k6, hb6⟩ := one_alloc w5 (.cells #[u5] 39)
    have HB6 := Lib.hid (HB5.out.trans (hb6.mono HB5.out.size))
    have HR6 := Lib.hid ((hr5.below hb6).more hb6.size)
    have HG6 := Lib.hid ((HG4.out.below (hb5.trans (hb6.mono hb5.size))).more (Nat.le_trans hb5.size hb6.size))
    have HQ6 := Lib.hid ((HQ4.out.below (hb5.trans (hb6.mono hb5.size))).more (Nat.le_trans hb5.size hb6.size))
    have HK6 := Lib.hid k6
    have m8 : V6.cell? ⟨w5.heap.size, 0, none⟩ = some u5 := by rw [blk_cell k6]; rfl
    have HV6 := Lib.hid hV6
    rw [hV6] at m8
    obtain ⟨A5, k5, rfl, _, _, _⟩ := hr5
    clear hV6 k6 hb5 hb6
    go_wp2_with fail
    rw [← HV6.out]
    clear m8 HV6
    refine (HIP.out _ _ V6 HR6.out HG6.out).mono ?_
    rintro e w7 ⟨rfl, hb7⟩
    have HB7 := Lib.hid (HB6.out.trans (hb7.mono HB6.out.size))
    have HR7 := Lib.hid ((HR6.out.below hb7).more hb7.size)
    have HG7 := Lib.hid ((HG6.out.below hb7).more hb7.size)
    have HQ7 := Lib.hid ((HQ6.out.below hb7).more hb7.size)
    have HK7 := Lib.hid (blk_below HK6.out hb7)
    have m8 : w7.cell? ⟨w5.heap.size, 0, none⟩ = some (.slice A5 dz.length k5) := by rw [blk_cell HK7.out]; rfl
    clear hb7
    go_wp2_with fail
    refine (HCC.out _ w7 HR7.out).mono ?_
    rintro e w8 ⟨rfl, hb8⟩
    have HB8 := Lib.hid (HB7.out.trans (hb8.mono HB7.out.size))
    have HR8 := Lib.hid ((HR7.out.below hb8).more hb8.size)
    have HG8 := Lib.hid ((HG7.out.below hb8).more hb8.size)
    have HQ8 := Lib.hid ((HQ7.out.below hb8).more hb8.size)
    have HK8 := Lib.hid (blk_below HK7.out hb8)
    have HACC : Hid (Acc elDomino w8 w8.heap.size (w8.alloc (.cells #[] 46)) (.slice (some ⟨w8.heap.size, 0, none⟩) 0 0) []) := Acc.start w8
    have HGA : Hid (RdF elDomino (w8.alloc (.cells #[] 46)) w8.heap.size (.slice A3 g.length k3) g) := HG8.out.below ((Below.refl _ _).alloc (Nat.le_refl _) _)
    clear hb8 m8
    go_wp2_with (at_builtin; refine wpList_pushSrcF okDomino rfl _ _ rfl HACC.out rfl g _ _ HGA.out rfl (by simp; omega) ?_; intro u9 w9 HA9 HG9; rw [List.nil_append] at HA9; obtain ⟨A9, k9, hu9, _⟩ := HA9.out.1.rd okDomino; subst hu9)
    have HB9 := Lib.hid (HB8.out.trans (HA9.out.2.1.mono HB8.out.size))
    clear HACC HGA
    go_loopw [9, 10] (fun o i wr => ∃ (k : Nat) (x : Value) (f : Nat → Bool), k ≤ sq.length ∧ i = .int .i64 (k : Int) ∧ x = o ∧ Hid (Acc elDomino w8 w8.heap.size wr x (g ++ fillTo sq f k))) (fun _ i _ => sq.length - (intOf i).toNat)
    case atStart => exact ⟨0, _, fun _ => false, Nat.zero_le _, rfl, rfl, by rw [show g ++ fillTo sq (fun _ => false) 0 = g from List.append_nil g]; exact HA9⟩
    case round =>
      obtain ⟨k, x, f, hk, rfl, rfl, HA⟩ := hrel
      obtain ⟨A10, k10, hv10, p1, p2, _⟩ := HA.out.1.rd okDomino
      rw [List.length_append, fillTo_len] at hv10
      subst hv10
      unfold maxLen at p2
      have HBW := Lib.hid (HB8.out.trans (HA.out.2.1.mono HB8.out.size))
      by_cases hlt : k < sq.length
      · have ht : decide ((k : Int) < (sq.length : Int)) = true := by simp only [decide_eq_true_eq]; omega
        obtain ⟨Aq, cq, heq, _, _, G9⟩ := RdD.of (E := elCell) rfl (fun _ => rfl) (HQ8.out.below HA.out.2.1)
        simp only [Value.slice.injEq, true_and] at heq
        obtain ⟨rfl, rfl⟩ := heq
        obtain ⟨ad, rfl, hbl, hcx, hcy⟩ := G9.out k hlt
        obtain ⟨hx6, hy6⟩ := HDQ.out k hlt
        generalize hX : dx sq k = X at *
        generalize hY : dy sq k = Y at *
        have HXE := Lib.hid hX; have HYE := Lib.hid hY
        clear hX hY G9
        have hk0 : (0 : Int) ≤ (k : Int) := by omega
        have hk1 : (k : Int) < (sq.length : Int) := by omega
        go_wp2_with fail
        refine (at_any _ n _ (k : Int) _ (HU.out.below HBW.out) (by omega) (by omega)).mono ?_
        rintro e w' ⟨z0, z00, z01, rfl, rfl⟩
        obtain ⟨dn, hdn⟩ : ∃ dn, (z0 % 2 == 1) = dn := ⟨_, rfl⟩
        have hX1 : IntKind.i64.wrap (X + 1) = X + 1 := IntWalk.i64_in _ (by omega)
        have hX2 : wrap64 (X + 1) = X + 1 := IntWalk.wrap64_in _ (by omega)
        have hY1 : IntKind.i64.wrap (Y + 1) = Y + 1 := IntWalk.i64_in _ (by omega)
        have hY2 : wrap64 (Y + 1) = Y + 1 := IntWalk.wrap64_in _ (by omega)
        have HAD : Hid ((ad.add (k * 2)).block < w8.heap.size) := by unfold Hid; rw [addBlock]; exact hbl
        generalize hP : ad.add (k * 2) = P at *
        have HBL : Hid (P.block < wr.heap.size) := Nat.lt_of_lt_of_le HAD.out HA.out.2.1.size
        have HCX0 := Lib.hid hcx; have HCY0 := Lib.hid hcy
        obtain ⟨v1, hv1⟩ : ∃ v1, wr.heap.size = v1 := ⟨_, rfl⟩
        cases dn
        · go_wp2_with fail
          refine wp_region_held_drew (S := fun w' => Below wr.heap.size wr w' ∧ w'.cell? P = some (.int .i64 X) ∧ w'.cell? ⟨P.block, P.off + 1, none⟩ = some (.int .i64 Y)) (by kernel_rfl) (by exact ⟨(Below.refl _ _).drew, hcx, hcy⟩) (fun hHeld => ?_)
          refine wpAnyH_take (i := 0) (oi := ⟨_, _, _, _, _, _⟩) (v := ?vap29081q1n0) rfl (by kernel_rfl) (by kernel_rfl) (by kernel_rfl) (fun _ _ _ h => h) (Or.inl ⟨by rfl, ?hap29081q1n0⟩) (by assumption) ?_
          case hap29081q1n0 => (intro w hSw; (try dsimp only at hSw); go_simp; try with_reducible rfl)
          try simp only [Act.put, List.setIfInBounds_toArray, List.set_cons_zero, List.set_cons_succ]
          refine wpAnyH_take (i := 1) (oi := ⟨_, _, _, _, _, _⟩) (v := ?vap29081q2n1) rfl (by kernel_rfl) (by kernel_rfl) (by kernel_rfl) (fun _ _ _ h => h) (Or.inl ⟨by rfl, ?hap29081q2n1⟩) (by assumption) ?_
          case hap29081q2n1 => (intro w hSw; (try dsimp only at hSw); go_simp; try with_reducible rfl)
          try simp only [Act.put, List.setIfInBounds_toArray, List.set_cons_zero, List.set_cons_succ]
          refine wpAnyH_take (i := 2) (oi := ⟨_, _, _, _, _, _⟩) (v := ?vap29081q3n2) rfl (by kernel_rfl) (by kernel_rfl) (by kernel_rfl) (fun _ _ _ h => h) (Or.inl ⟨by rfl, ?hap29081q3n2⟩) (by assumption) ?_
          case hap29081q3n2 => (intro w hSw; (try dsimp only at hSw); go_simp; try with_reducible rfl)
          try simp only [Act.put, List.setIfInBounds_toArray, List.set_cons_zero, List.set_cons_succ]
          refine wpAnyH_take (i := 3) (oi := ⟨_, _, _, _, _, _⟩) (v := ?vap29081q4n3) rfl (by kernel_rfl) (by kernel_rfl) (by kernel_rfl) (fun _ _ _ h => h) (Or.inl ⟨by rfl, ?hap29081q4n3⟩) (by assumption) ?_
          case hap29081q4n3 => (intro w hSw; (try dsimp only at hSw); go_simp; try with_reducible rfl)
          try simp only [Act.put, List.setIfInBounds_toArray, List.set_cons_zero, List.set_cons_succ]
          refine wpAnyH_take (i := 4) (oi := ⟨_, _, _, _, _, _⟩) (v := ?vap29081q5n4) rfl (by kernel_rfl) (by kernel_rfl) (by kernel_rfl) (fun _ _ _ h => h) (Or.inl ⟨by rfl, ?hap29081q5n4⟩) (by assumption) ?_
          case hap29081q5n4 => (intro w hSw; (try dsimp only at hSw); go_simp; try with_reducible rfl)
          try simp only [Act.put, List.setIfInBounds_toArray, List.set_cons_zero, List.set_cons_succ]
          refine wpAnyH_take (i := 5) (oi := ⟨_, _, _, _, _, _⟩) (v := ?vap29081q6n5) rfl (by kernel_rfl) (by kernel_rfl) (by kernel_rfl) (fun _ _ _ h => h) (Or.inl ⟨by rfl, ?hap29081q6n5⟩) (by assumption) ?_
          case hap29081q6n5 => (intro w hSw; (try dsimp only at hSw); go_simp; try with_reducible rfl)
          try simp only [Act.put, List.setIfInBounds_toArray, List.set_cons_zero, List.set_cons_succ]
          refine wpAnyH_take (i := 6) (oi := ⟨_, _, _, _, _, _⟩) (v := ?vap29081q7n6) rfl (by kernel_rfl) (by kernel_rfl) (by kernel_rfl) (fun _ _ _ h => h) (Or.inl ⟨by rfl, ?hap29081q7n6⟩) (by assumption) ?_
          case hap29081q7n6 => (intro w hSw; (try dsimp only at hSw); go_simp; try with_reducible rfl)
          try simp only [Act.put, List.setIfInBounds_toArray, List.set_cons_zero, List.set_cons_succ]
          refine wpAnyH_take (i := 7) (oi := ⟨_, _, _, _, _, _⟩) (v := ?vap29081q8n7) rfl (by kernel_rfl) (by kernel_rfl) (by kernel_rfl) (fun _ _ _ h => h) (Or.inl ⟨by rfl, ?hap29081q8n7⟩) (by assumption) ?_
          case hap29081q8n7 => (intro w hSw; (try dsimp only at hSw); go_simp; try with_reducible rfl)
          try simp only [Act.put, List.setIfInBounds_toArray, List.set_cons_zero, List.set_cons_succ]
          refine wpAnyH_take (i := 8) (oi := ⟨_, _, _, _, _, _⟩) (v := ?vap29081q9n8) rfl (by kernel_rfl) (by kernel_rfl) (by kernel_rfl) (fun _ _ _ h => h) (Or.inl ⟨by rfl, ?hap29081q9n8⟩) (by assumption) ?_
          case hap29081q9n8 => (intro w hSw; (try dsimp only at hSw); go_simp; try with_reducible rfl)
          try simp only [Act.put, List.setIfInBounds_toArray, List.set_cons_zero, List.set_cons_succ]
          refine wpAnyH_take (i := 9) (oi := ⟨_, _, _, _, _, _⟩) (v := ?vap29081q10n9) rfl (by kernel_rfl) (by kernel_rfl) (by kernel_rfl) (fun _ _ _ h => h) (Or.inl ⟨by rfl, ?hap29081q10n9⟩) (by assumption) ?_
          case hap29081q10n9 => (intro w hSw; (try dsimp only at hSw); go_simp; try with_reducible rfl)
          try simp only [Act.put, List.setIfInBounds_toArray, List.set_cons_zero, List.set_cons_succ]
          refine wpAnyH_take (i := 10) (oi := ⟨_, _, _, _, _, _⟩) (v := ?vap29081q11n10) rfl (by kernel_rfl) (by kernel_rfl) (by kernel_rfl) (fun _ _ _ h => h) (Or.inl ⟨by rfl, ?hap29081q11n10⟩) (by assumption) ?_
          case hap29081q11n10 => (intro w hSw; (try dsimp only at hSw); go_simp; try with_reducible rfl)
          try simp only [Act.put, List.setIfInBounds_toArray, List.set_cons_zero, List.set_cons_succ]
          refine wpAnyH_take (i := 11) (oi := ⟨_, _, _, _, _, _⟩) (v := ?vap29081q12n11) rfl (by kernel_rfl) (by kernel_rfl) (by kernel_rfl) (fun _ _ _ h => h) (Or.inl ⟨by rfl, ?hap29081q12n11⟩) (by assumption) ?_
          case hap29081q12n11 => (intro w hSw; (try dsimp only at hSw); go_simp; try with_reducible rfl)
          try simp only [Act.put, List.setIfInBounds_toArray, List.set_cons_zero, List.set_cons_succ]
          refine wpAnyH_ready (rs := [12]) (by kernel_rfl) (by simp) ?_
          refine AllReadyH.cons (o := ⟨_, _, _, _, _, _⟩) rfl (fun K hK => ?_) AllReadyH.nil
          go_simp
          refine hK.out _ _ (by (refine keepB HBL.out hcx hcy ?_; first | exact hHeld.1.alloc hHeld.1.size _ | exact ((Below.refl _ _).alloc (Nat.le_refl _) _).drew | exact (Below.refl _ _).drew.alloc (by simp) _ | exact (hHeld.1.setCell (p := ⟨_, _, none⟩) (Nat.le_refl _) _))) (fun hHeld => ?_)
          clear hK K
          try simp only [Act.put, List.setIfInBounds_toArray, List.set_cons_zero, List.set_cons_succ]
          refine wpAnyH_ready (rs := [13]) (by kernel_rfl) (by simp) ?_
          refine AllReadyH.cons (o := ⟨_, _, _, _, _, _⟩) rfl (fun K hK => ?_) AllReadyH.nil
          go_simp
          refine hK.out _ _ (by (refine keepB HBL.out hcx hcy ?_; first | exact hHeld.1.alloc hHeld.1.size _ | exact ((Below.refl _ _).alloc (Nat.le_refl _) _).drew | exact (Below.refl _ _).drew.alloc (by simp) _ | exact (hHeld.1.setCell (p := ⟨_, _, none⟩) (Nat.le_refl _) _))) (fun hHeld => ?_)
          clear hK K
          try simp only [Act.put, List.setIfInBounds_toArray, List.set_cons_zero, List.set_cons_succ]
          refine wpAnyH_done (by kernel_rfl) ?_ _
          obtain ⟨V1, hV1, kV1, bV1⟩ := one_alloc wr (triO X Y false 46)
          rw [← hV1]
          have hcx1 : V1.drew.cell? P = some (.int .i64 X) := (bV1.cell HBL.out).trans hcx
          have hcy1 : V1.drew.cell? ⟨P.block, P.off + 1, none⟩ = some (.int .i64 Y) := (bV1.cell (p := ⟨P.block, P.off + 1, none⟩) HBL.out).trans hcy
          have HBL1 : Hid (P.block < V1.drew.heap.size) := Nat.lt_of_lt_of_le HBL.out bV1.size
          have HK1 : Hid (V1.drew.heap[v1]? = some (triO X Y false 46)) := by unfold Hid; rw [← hv1]; exact kV1
          have HD1 : Hid (Below wr.heap.size wr V1.drew) := bV1.drew
          try rw [hv1]
          clear hV1 kV1 bV1 hcx hcy
          generalize V1.drew = U1 at *
          have hcx := hcx1
          have hcy := hcy1
          clear hcx1 hcy1
          obtain ⟨v2, hv2⟩ : ∃ v2, U1.heap.size = v2 := ⟨_, rfl⟩
          go_wp2_with fail
          refine wp_region_held_drew (S := fun w' => Below U1.heap.size U1 w' ∧ w'.cell? P = some (.int .i64 X) ∧ w'.cell? ⟨P.block, P.off + 1, none⟩ = some (.int .i64 Y)) (by kernel_rfl) (by exact ⟨(Below.refl _ _).drew, hcx, hcy⟩) (fun hHeld => ?_)
          refine wpAnyH_take (i := 0) (oi := ⟨_, _, _, _, _, _⟩) (v := ?vap29082q1n0) rfl (by kernel_rfl) (by kernel_rfl) (by kernel_rfl) (fun _ _ _ h => h) (Or.inl ⟨by rfl, ?hap29082q1n0⟩) (by assumption) ?_
          case hap29082q1n0 => (intro w hSw; (try dsimp only at hSw); go_simp; try with_reducible rfl)
          try simp only [Act.put, List.setIfInBounds_toArray, List.set_cons_zero, List.set_cons_succ]
          refine wpAnyH_take (i := 1) (oi := ⟨_, _, _, _, _, _⟩) (v := ?vap29082q2n1) rfl (by kernel_rfl) (by kernel_rfl) (by kernel_rfl) (fun _ _ _ h => h) (Or.inl ⟨by rfl, ?hap29082q2n1⟩) (by assumption) ?_
          case hap29082q2n1 => (intro w hSw; (try dsimp only at hSw); go_simp; try with_reducible rfl)
          try simp only [Act.put, List.setIfInBounds_toArray, List.set_cons_zero, List.set_cons_succ]
          refine wpAnyH_take (i := 2) (oi := ⟨_, _, _, _, _, _⟩) (v := ?vap29082q3n2) rfl (by kernel_rfl) (by kernel_rfl) (by kernel_rfl) (fun _ _ _ h => h) (Or.inl ⟨by rfl, ?hap29082q3n2⟩) (by assumption) ?_
          case hap29082q3n2 => (intro w hSw; (try dsimp only at hSw); go_simp; try with_reducible rfl)
          try simp only [Act.put, List.setIfInBounds_toArray, List.set_cons_zero, List.set_cons_succ]
          refine wpAnyH_take (i := 3) (oi := ⟨_, _, _, _, _, _⟩) (v := ?vap29082q4n3) rfl (by kernel_rfl) (by kernel_rfl) (by kernel_rfl) (fun _ _ _ h => h) (Or.inl ⟨by rfl, ?hap29082q4n3⟩) (by assumption) ?_
          case hap29082q4n3 => (intro w hSw; (try dsimp only at hSw); go_simp; try with_reducible rfl)
          try simp only [Act.put, List.setIfInBounds_toArray, List.set_cons_zero, List.set_cons_succ]
          refine wpAnyH_take (i := 4) (oi := ⟨_, _, _, _, _, _⟩) (v := ?vap29082q5n4) rfl (by kernel_rfl) (by kernel_rfl) (by kernel_rfl) (fun _ _ _ h => h) (Or.inl ⟨by rfl, ?hap29082q5n4⟩) (by assumption) ?_
          case hap29082q5n4 => (intro w hSw; (try dsimp only at hSw); go_simp; try with_reducible rfl)
          try simp only [Act.put, List.setIfInBounds_toArray, List.set_cons_zero, List.set_cons_succ]
          refine wpAnyH_take (i := 5) (oi := ⟨_, _, _, _, _, _⟩) (v := ?vap29082q6n5) rfl (by kernel_rfl) (by kernel_rfl) (by kernel_rfl) (fun _ _ _ h => h) (Or.inl ⟨by rfl, ?hap29082q6n5⟩) (by assumption) ?_
          case hap29082q6n5 => (intro w hSw; (try dsimp only at hSw); go_simp; try with_reducible rfl)
          try simp only [Act.put, List.setIfInBounds_toArray, List.set_cons_zero, List.set_cons_succ]
          refine wpAnyH_take (i := 6) (oi := ⟨_, _, _, _, _, _⟩) (v := ?vap29082q7n6) rfl (by kernel_rfl) (by kernel_rfl) (by kernel_rfl) (fun _ _ _ h => h) (Or.inl ⟨by rfl, ?hap29082q7n6⟩) (by assumption) ?_
          case hap29082q7n6 => (intro w hSw; (try dsimp only at hSw); go_simp; try with_reducible rfl)
          try simp only [Act.put, List.setIfInBounds_toArray, List.set_cons_zero, List.set_cons_succ]
          refine wpAnyH_take (i := 7) (oi := ⟨_, _, _, _, _, _⟩) (v := ?vap29082q8n7) rfl (by kernel_rfl) (by kernel_rfl) (by kernel_rfl) (fun _ _ _ h => h) (Or.inl ⟨by rfl, ?hap29082q8n7⟩) (by assumption) ?_
          case hap29082q8n7 => (intro w hSw; (try dsimp only at hSw); go_simp; try with_reducible rfl)
          try simp only [Act.put, List.setIfInBounds_toArray, List.set_cons_zero, List.set_cons_succ]
          refine wpAnyH_take (i := 8) (oi := ⟨_, _, _, _, _, _⟩) (v := ?vap29082q9n8) rfl (by kernel_rfl) (by kernel_rfl) (by kernel_rfl) (fun _ _ _ h => h) (Or.inl ⟨by rfl, ?hap29082q9n8⟩) (by assumption) ?_
          case hap29082q9n8 => (intro w hSw; (try dsimp only at hSw); go_simp; try with_reducible rfl)
          try simp only [Act.put, List.setIfInBounds_toArray, List.set_cons_zero, List.set_cons_succ]
          refine wpAnyH_take (i := 9) (oi := ⟨_, _, _, _, _, _⟩) (v := ?vap29082q10n9) rfl (by kernel_rfl) (by kernel_rfl) (by kernel_rfl) (fun _ _ _ h => h) (Or.inl ⟨by rfl, ?hap29082q10n9⟩) (by assumption) ?_
          case hap29082q10n9 => (intro w hSw; (try dsimp only at hSw); go_simp; try with_reducible rfl)
          try simp only [Act.put, List.setIfInBounds_toArray, List.set_cons_zero, List.set_cons_succ]
          refine wpAnyH_take (i := 10) (oi := ⟨_, _, _, _, _, _⟩) (v := ?vap29082q11n10) rfl (by kernel_rfl) (by kernel_rfl) (by kernel_rfl) (fun _ _ _ h => h) (Or.inl ⟨by rfl, ?hap29082q11n10⟩) (by assumption) ?_
          case hap29082q11n10 => (intro w hSw; (try dsimp only at hSw); go_simp; try with_reducible rfl)
          try simp only [Act.put, List.setIfInBounds_toArray, List.set_cons_zero, List.set_cons_succ]
          refine wpAnyH_take (i := 11) (oi := ⟨_, _, _, _, _, _⟩) (v := ?vap29082q12n11) rfl (by kernel_rfl) (by kernel_rfl) (by kernel_rfl) (fun _ _ _ h => h) (Or.inl ⟨by rfl, ?hap29082q12n11⟩) (by assumption) ?_
          case hap29082q12n11 => (intro w hSw; (try dsimp only at hSw); go_simp; try with_reducible rfl)
          try simp only [Act.put, List.setIfInBounds_toArray, List.set_cons_zero, List.set_cons_succ]
          refine wpAnyH_ready (rs := [12]) (by kernel_rfl) (by simp) ?_
          refine AllReadyH.cons (o := ⟨_, _, _, _, _, _⟩) rfl (fun K hK => ?_) AllReadyH.nil
          go_simp
          refine hK.out _ _ (by (refine keepB HBL1.out hcx hcy ?_; first | exact hHeld.1.alloc hHeld.1.size _ | exact ((Below.refl _ _).alloc (Nat.le_refl _) _).drew | exact (Below.refl _ _).drew.alloc (by simp) _ | exact (hHeld.1.setCell (p := ⟨_, _, none⟩) (Nat.le_refl _) _))) (fun hHeld => ?_)
          clear hK K
          try simp only [Act.put, List.setIfInBounds_toArray, List.set_cons_zero, List.set_cons_succ]
          refine wpAnyH_ready (rs := [13]) (by kernel_rfl) (by simp) ?_
          refine AllReadyH.cons (o := ⟨_, _, _, _, _, _⟩) rfl (fun K hK => ?_) AllReadyH.nil
          go_simp
          refine hK.out _ _ (by (refine keepB HBL1.out hcx hcy ?_; first | exact hHeld.1.alloc hHeld.1.size _ | exact ((Below.refl _ _).alloc (Nat.le_refl _) _).drew | exact (Below.refl _ _).drew.alloc (by simp) _ | exact (hHeld.1.setCell (p := ⟨_, _, none⟩) (Nat.le_refl _) _))) (fun hHeld => ?_)
          clear hK K
          try simp only [Act.put, List.setIfInBounds_toArray, List.set_cons_zero, List.set_cons_succ]
          refine wpAnyH_done (by kernel_rfl) ?_ _
          obtain ⟨V2, hV2, kV2, bV2⟩ := one_alloc U1 (triO X (Y + 1) false 46)
          rw [← hV2]
          have hcx1 : V2.drew.cell? P = some (.int .i64 X) := (bV2.cell HBL1.out).trans hcx
          have hcy1 : V2.drew.cell? ⟨P.block, P.off + 1, none⟩ = some (.int .i64 Y) := (bV2.cell (p := ⟨P.block, P.off + 1, none⟩) HBL1.out).trans hcy
          have HBL2 : Hid (P.block < V2.drew.heap.size) := Nat.lt_of_lt_of_le HBL1.out bV2.size
          have HK2 : Hid (V2.drew.heap[v2]? = some (triO X (Y + 1) false 46)) := by unfold Hid; rw [← hv2]; exact kV2
          have HK12 : Hid (V2.drew.heap[v1]? = some (triO X Y false 46)) := (bV2.block v1 (lt_of_block HK1.out)).trans HK1.out
          have HD2 : Hid (Below wr.heap.size wr V2.drew) := HD1.out.trans (bV2.drew.mono HD1.out.size)
          try rw [hv2]
          clear hV2 kV2 bV2 hcx hcy
          generalize V2.drew = U2 at *
          have hcx := hcx1
          have hcy := hcy1
          clear hcx1 hcy1
          obtain ⟨f0, f1, f2⟩ := tri_cells HK12.out
          obtain ⟨e0, e1, e2⟩ := tri_cells HK2.out
          have HA12 := Lib.hid (HA.out.below HD2.out)
          have HLB : Hid ((g ++ fillTo sq f k).length + 2 ≤ 1073741824) := by unfold Hid; rw [List.length_append, fillTo_len]; omega
          have HFX : Hid ((g ++ fillTo sq f k) ++ [(X, Y, false), (X, Y + 1, false)] = g ++ fillTo sq (fun j => if j = k then false else f j) (k + 1)) := by
            unfold Hid
            rw [fillTo, fillTo_ext sq (f := fun j => if j = k then false else f j) (f' := f) k (fun j hj => if_neg (by omega)), HXE.out, HYE.out]
            simp [quadL, prt]
          clear hcx hcy HK12 HK2 HD2
          go_wp2_with (at_builtin; refine wpList_pushes okDomino rfl _ _ rfl HA12.out rfl [(X, Y, false), (X, Y + 1, false)] 2 rfl (by omega) _ rfl _ rfl rfl HLB.out ?_; intro u10 w10 HA10 HG10)
          go_roundw
          case rel => exact ⟨k + 1, _, fun j => if j = k then false else f j, by omega, by go_num, rfl, by rw [← HFX.out]; exact HA10⟩
          case measure => simp [intOf]; omega
        · go_wp2_with fail
          refine wp_region_held_drew (S := fun w' => Below wr.heap.size wr w' ∧ w'.cell? P = some (.int .i64 X) ∧ w'.cell? ⟨P.block, P.off + 1, none⟩ = some (.int .i64 Y)) (by kernel_rfl) (by exact ⟨(Below.refl _ _).drew, hcx, hcy⟩) (fun hHeld => ?_)
          refine wpAnyH_take (i := 0) (oi := ⟨_, _, _, _, _, _⟩) (v := ?vap29083q1n0) rfl (by kernel_rfl) (by kernel_rfl) (by kernel_rfl) (fun _ _ _ h => h) (Or.inl ⟨by rfl, ?hap29083q1n0⟩) (by assumption) ?_
          case hap29083q1n0 => (intro w hSw; (try dsimp only at hSw); go_simp; try with_reducible rfl)
          try simp only [Act.put, List.setIfInBounds_toArray, List.set_cons_zero, List.set_cons_succ]
          refine wpAnyH_take (i := 1) (oi := ⟨_, _, _, _, _, _⟩) (v := ?vap29083q2n1) rfl (by kernel_rfl) (by kernel_rfl) (by kernel_rfl) (fun _ _ _ h => h) (Or.inl ⟨by rfl, ?hap29083q2n1⟩) (by assumption) ?_
          case hap29083q2n1 => (intro w hSw; (try dsimp only at hSw); go_simp; try with_reducible rfl)
          try simp only [Act.put, List.setIfInBounds_toArray, List.set_cons_zero, List.set_cons_succ]
          refine wpAnyH_take (i := 2) (oi := ⟨_, _, _, _, _, _⟩) (v := ?vap29083q3n2) rfl (by kernel_rfl) (by kernel_rfl) (by kernel_rfl) (fun _ _ _ h => h) (Or.inl ⟨by rfl, ?hap29083q3n2⟩) (by assumption) ?_
          case hap29083q3n2 => (intro w hSw; (try dsimp only at hSw); go_simp; try with_reducible rfl)
          try simp only [Act.put, List.setIfInBounds_toArray, List.set_cons_zero, List.set_cons_succ]
          refine wpAnyH_take (i := 3) (oi := ⟨_, _, _, _, _, _⟩) (v := ?vap29083q4n3) rfl (by kernel_rfl) (by kernel_rfl) (by kernel_rfl) (fun _ _ _ h => h) (Or.inl ⟨by rfl, ?hap29083q4n3⟩) (by assumption) ?_
          case hap29083q4n3 => (intro w hSw; (try dsimp only at hSw); go_simp; try with_reducible rfl)
          try simp only [Act.put, List.setIfInBounds_toArray, List.set_cons_zero, List.set_cons_succ]
          refine wpAnyH_take (i := 4) (oi := ⟨_, _, _, _, _, _⟩) (v := ?vap29083q5n4) rfl (by kernel_rfl) (by kernel_rfl) (by kernel_rfl) (fun _ _ _ h => h) (Or.inl ⟨by rfl, ?hap29083q5n4⟩) (by assumption) ?_
          case hap29083q5n4 => (intro w hSw; (try dsimp only at hSw); go_simp; try with_reducible rfl)
          try simp only [Act.put, List.setIfInBounds_toArray, List.set_cons_zero, List.set_cons_succ]
          refine wpAnyH_take (i := 5) (oi := ⟨_, _, _, _, _, _⟩) (v := ?vap29083q6n5) rfl (by kernel_rfl) (by kernel_rfl) (by kernel_rfl) (fun _ _ _ h => h) (Or.inl ⟨by rfl, ?hap29083q6n5⟩) (by assumption) ?_
          case hap29083q6n5 => (intro w hSw; (try dsimp only at hSw); go_simp; try with_reducible rfl)
          try simp only [Act.put, List.setIfInBounds_toArray, List.set_cons_zero, List.set_cons_succ]
          refine wpAnyH_take (i := 6) (oi := ⟨_, _, _, _, _, _⟩) (v := ?vap29083q7n6) rfl (by kernel_rfl) (by kernel_rfl) (by kernel_rfl) (fun _ _ _ h => h) (Or.inl ⟨by rfl, ?hap29083q7n6⟩) (by assumption) ?_
          case hap29083q7n6 => (intro w hSw; (try dsimp only at hSw); go_simp; try with_reducible rfl)
          try simp only [Act.put, List.setIfInBounds_toArray, List.set_cons_zero, List.set_cons_succ]
          refine wpAnyH_take (i := 7) (oi := ⟨_, _, _, _, _, _⟩) (v := ?vap29083q8n7) rfl (by kernel_rfl) (by kernel_rfl) (by kernel_rfl) (fun _ _ _ h => h) (Or.inl ⟨by rfl, ?hap29083q8n7⟩) (by assumption) ?_
          case hap29083q8n7 => (intro w hSw; (try dsimp only at hSw); go_simp; try with_reducible rfl)
          try simp only [Act.put, List.setIfInBounds_toArray, List.set_cons_zero, List.set_cons_succ]
          refine wpAnyH_take (i := 8) (oi := ⟨_, _, _, _, _, _⟩) (v := ?vap29083q9n8) rfl (by kernel_rfl) (by kernel_rfl) (by kernel_rfl) (fun _ _ _ h => h) (Or.inl ⟨by rfl, ?hap29083q9n8⟩) (by assumption) ?_
          case hap29083q9n8 => (intro w hSw; (try dsimp only at hSw); go_simp; try with_reducible rfl)
          try simp only [Act.put, List.setIfInBounds_toArray, List.set_cons_zero, List.set_cons_succ]
          refine wpAnyH_take (i := 9) (oi := ⟨_, _, _, _, _, _⟩) (v := ?vap29083q10n9) rfl (by kernel_rfl) (by kernel_rfl) (by kernel_rfl) (fun _ _ _ h => h) (Or.inl ⟨by rfl, ?hap29083q10n9⟩) (by assumption) ?_
          case hap29083q10n9 => (intro w hSw; (try dsimp only at hSw); go_simp; try with_reducible rfl)
          try simp only [Act.put, List.setIfInBounds_toArray, List.set_cons_zero, List.set_cons_succ]
          refine wpAnyH_take (i := 10) (oi := ⟨_, _, _, _, _, _⟩) (v := ?vap29083q11n10) rfl (by kernel_rfl) (by kernel_rfl) (by kernel_rfl) (fun _ _ _ h => h) (Or.inl ⟨by rfl, ?hap29083q11n10⟩) (by assumption) ?_
          case hap29083q11n10 => (intro w hSw; (try dsimp only at hSw); go_simp; try with_reducible rfl)
          try simp only [Act.put, List.setIfInBounds_toArray, List.set_cons_zero, List.set_cons_succ]
          refine wpAnyH_take (i := 11) (oi := ⟨_, _, _, _, _, _⟩) (v := ?vap29083q12n11) rfl (by kernel_rfl) (by kernel_rfl) (by kernel_rfl) (fun _ _ _ h => h) (Or.inl ⟨by rfl, ?hap29083q12n11⟩) (by assumption) ?_
          case hap29083q12n11 => (intro w hSw; (try dsimp only at hSw); go_simp; try with_reducible rfl)
          try simp only [Act.put, List.setIfInBounds_toArray, List.set_cons_zero, List.set_cons_succ]
          refine wpAnyH_ready (rs := [12]) (by kernel_rfl) (by simp) ?_
          refine AllReadyH.cons (o := ⟨_, _, _, _, _, _⟩) rfl (fun K hK => ?_) AllReadyH.nil
          go_simp
          refine hK.out _ _ (by (refine keepB HBL.out hcx hcy ?_; first | exact hHeld.1.alloc hHeld.1.size _ | exact ((Below.refl _ _).alloc (Nat.le_refl _) _).drew | exact (Below.refl _ _).drew.alloc (by simp) _ | exact (hHeld.1.setCell (p := ⟨_, _, none⟩) (Nat.le_refl _) _))) (fun hHeld => ?_)
          clear hK K
          try simp only [Act.put, List.setIfInBounds_toArray, List.set_cons_zero, List.set_cons_succ]
          refine wpAnyH_ready (rs := [13]) (by kernel_rfl) (by simp) ?_
          refine AllReadyH.cons (o := ⟨_, _, _, _, _, _⟩) rfl (fun K hK => ?_) AllReadyH.nil
          go_simp
          refine hK.out _ _ (by (refine keepB HBL.out hcx hcy ?_; first | exact hHeld.1.alloc hHeld.1.size _ | exact ((Below.refl _ _).alloc (Nat.le_refl _) _).drew | exact (Below.refl _ _).drew.alloc (by simp) _ | exact (hHeld.1.setCell (p := ⟨_, _, none⟩) (Nat.le_refl _) _))) (fun hHeld => ?_)
          clear hK K
          try simp only [Act.put, List.setIfInBounds_toArray, List.set_cons_zero, List.set_cons_succ]
          refine wpAnyH_done (by kernel_rfl) ?_ _
          obtain ⟨V1, hV1, kV1, bV1⟩ := one_alloc wr (triO X Y true 46)
          rw [← hV1]
          have hcx1 : V1.drew.cell? P = some (.int .i64 X) := (bV1.cell HBL.out).trans hcx
          have hcy1 : V1.drew.cell? ⟨P.block, P.off + 1, none⟩ = some (.int .i64 Y) := (bV1.cell (p := ⟨P.block, P.off + 1, none⟩) HBL.out).trans hcy
          have HBL1 : Hid (P.block < V1.drew.heap.size) := Nat.lt_of_lt_of_le HBL.out bV1.size
          have HK1 : Hid (V1.drew.heap[v1]? = some (triO X Y true 46)) := by unfold Hid; rw [← hv1]; exact kV1
          have HD1 : Hid (Below wr.heap.size wr V1.drew) := bV1.drew
          try rw [hv1]
          clear hV1 kV1 bV1 hcx hcy
          generalize V1.drew = U1 at *
          have hcx := hcx1
          have hcy := hcy1
          clear hcx1 hcy1
          obtain ⟨v2, hv2⟩ : ∃ v2, U1.heap.size = v2 := ⟨_, rfl⟩
          go_wp2_with fail
          refine wp_region_held_drew (S := fun w' => Below U1.heap.size U1 w' ∧ w'.cell? P = some (.int .i64 X) ∧ w'.cell? ⟨P.block, P.off + 1, none⟩ = some (.int .i64 Y)) (by kernel_rfl) (by exact ⟨(Below.refl _ _).drew, hcx, hcy⟩) (fun hHeld => ?_)
          refine wpAnyH_take (i := 0) (oi := ⟨_, _, _, _, _, _⟩) (v := ?vap29084q1n0) rfl (by kernel_rfl) (by kernel_rfl) (by kernel_rfl) (fun _ _ _ h => h) (Or.inl ⟨by rfl, ?hap29084q1n0⟩) (by assumption) ?_
          case hap29084q1n0 => (intro w hSw; (try dsimp only at hSw); go_simp; try with_reducible rfl)
          try simp only [Act.put, List.setIfInBounds_toArray, List.set_cons_zero, List.set_cons_succ]
          refine wpAnyH_take (i := 1) (oi := ⟨_, _, _, _, _, _⟩) (v := ?vap29084q2n1) rfl (by kernel_rfl) (by kernel_rfl) (by kernel_rfl) (fun _ _ _ h => h) (Or.inl ⟨by rfl, ?hap29084q2n1⟩) (by assumption) ?_
          case hap29084q2n1 => (intro w hSw; (try dsimp only at hSw); go_simp; try with_reducible rfl)
          try simp only [Act.put, List.setIfInBounds_toArray, List.set_cons_zero, List.set_cons_succ]
          refine wpAnyH_take (i := 2) (oi := ⟨_, _, _, _, _, _⟩) (v := ?vap29084q3n2) rfl (by kernel_rfl) (by kernel_rfl) (by kernel_rfl) (fun _ _ _ h => h) (Or.inl ⟨by rfl, ?hap29084q3n2⟩) (by assumption) ?_
          case hap29084q3n2 => (intro w hSw; (try dsimp only at hSw); go_simp; try with_reducible rfl)
          try simp only [Act.put, List.setIfInBounds_toArray, List.set_cons_zero, List.set_cons_succ]
          refine wpAnyH_take (i := 3) (oi := ⟨_, _, _, _, _, _⟩) (v := ?vap29084q4n3) rfl (by kernel_rfl) (by kernel_rfl) (by kernel_rfl) (fun _ _ _ h => h) (Or.inl ⟨by rfl, ?hap29084q4n3⟩) (by assumption) ?_
          case hap29084q4n3 => (intro w hSw; (try dsimp only at hSw); go_simp; try with_reducible rfl)
          try simp only [Act.put, List.setIfInBounds_toArray, List.set_cons_zero, List.set_cons_succ]
          refine wpAnyH_take (i := 4) (oi := ⟨_, _, _, _, _, _⟩) (v := ?vap29084q5n4) rfl (by kernel_rfl) (by kernel_rfl) (by kernel_rfl) (fun _ _ _ h => h) (Or.inl ⟨by rfl, ?hap29084q5n4⟩) (by assumption) ?_
          case hap29084q5n4 => (intro w hSw; (try dsimp only at hSw); go_simp; try with_reducible rfl)
          try simp only [Act.put, List.setIfInBounds_toArray, List.set_cons_zero, List.set_cons_succ]
          refine wpAnyH_take (i := 5) (oi := ⟨_, _, _, _, _, _⟩) (v := ?vap29084q6n5) rfl (by kernel_rfl) (by kernel_rfl) (by kernel_rfl) (fun _ _ _ h => h) (Or.inl ⟨by rfl, ?hap29084q6n5⟩) (by assumption) ?_
          case hap29084q6n5 => (intro w hSw; (try dsimp only at hSw); go_simp; try with_reducible rfl)
          try simp only [Act.put, List.setIfInBounds_toArray, List.set_cons_zero, List.set_cons_succ]
          refine wpAnyH_take (i := 6) (oi := ⟨_, _, _, _, _, _⟩) (v := ?vap29084q7n6) rfl (by kernel_rfl) (by kernel_rfl) (by kernel_rfl) (fun _ _ _ h => h) (Or.inl ⟨by rfl, ?hap29084q7n6⟩) (by assumption) ?_
          case hap29084q7n6 => (intro w hSw; (try dsimp only at hSw); go_simp; try with_reducible rfl)
          try simp only [Act.put, List.setIfInBounds_toArray, List.set_cons_zero, List.set_cons_succ]
          refine wpAnyH_take (i := 7) (oi := ⟨_, _, _, _, _, _⟩) (v := ?vap29084q8n7) rfl (by kernel_rfl) (by kernel_rfl) (by kernel_rfl) (fun _ _ _ h => h) (Or.inl ⟨by rfl, ?hap29084q8n7⟩) (by assumption) ?_
          case hap29084q8n7 => (intro w hSw; (try dsimp only at hSw); go_simp; try with_reducible rfl)
          try simp only [Act.put, List.setIfInBounds_toArray, List.set_cons_zero, List.set_cons_succ]
          refine wpAnyH_take (i := 8) (oi := ⟨_, _, _, _, _, _⟩) (v := ?vap29084q9n8) rfl (by kernel_rfl) (by kernel_rfl) (by kernel_rfl) (fun _ _ _ h => h) (Or.inl ⟨by rfl, ?hap29084q9n8⟩) (by assumption) ?_
          case hap29084q9n8 => (intro w hSw; (try dsimp only at hSw); go_simp; try with_reducible rfl)
          try simp only [Act.put, List.setIfInBounds_toArray, List.set_cons_zero, List.set_cons_succ]
          refine wpAnyH_take (i := 9) (oi := ⟨_, _, _, _, _, _⟩) (v := ?vap29084q10n9) rfl (by kernel_rfl) (by kernel_rfl) (by kernel_rfl) (fun _ _ _ h => h) (Or.inl ⟨by rfl, ?hap29084q10n9⟩) (by assumption) ?_
          case hap29084q10n9 => (intro w hSw; (try dsimp only at hSw); go_simp; try with_reducible rfl)
          try simp only [Act.put, List.setIfInBounds_toArray, List.set_cons_zero, List.set_cons_succ]
          refine wpAnyH_take (i := 10) (oi := ⟨_, _, _, _, _, _⟩) (v := ?vap29084q11n10) rfl (by kernel_rfl) (by kernel_rfl) (by kernel_rfl) (fun _ _ _ h => h) (Or.inl ⟨by rfl, ?hap29084q11n10⟩) (by assumption) ?_
          case hap29084q11n10 => (intro w hSw; (try dsimp only at hSw); go_simp; try with_reducible rfl)
          try simp only [Act.put, List.setIfInBounds_toArray, List.set_cons_zero, List.set_cons_succ]
          refine wpAnyH_take (i := 11) (oi := ⟨_, _, _, _, _, _⟩) (v := ?vap29084q12n11) rfl (by kernel_rfl) (by kernel_rfl) (by kernel_rfl) (fun _ _ _ h => h) (Or.inl ⟨by rfl, ?hap29084q12n11⟩) (by assumption) ?_
          case hap29084q12n11 => (intro w hSw; (try dsimp only at hSw); go_simp; try with_reducible rfl)
          try simp only [Act.put, List.setIfInBounds_toArray, List.set_cons_zero, List.set_cons_succ]
          refine wpAnyH_ready (rs := [12]) (by kernel_rfl) (by simp) ?_
          refine AllReadyH.cons (o := ⟨_, _, _, _, _, _⟩) rfl (fun K hK => ?_) AllReadyH.nil
          go_simp
          refine hK.out _ _ (by (refine keepB HBL1.out hcx hcy ?_; first | exact hHeld.1.alloc hHeld.1.size _ | exact ((Below.refl _ _).alloc (Nat.le_refl _) _).drew | exact (Below.refl _ _).drew.alloc (by simp) _ | exact (hHeld.1.setCell (p := ⟨_, _, none⟩) (Nat.le_refl _) _))) (fun hHeld => ?_)
          clear hK K
          try simp only [Act.put, List.setIfInBounds_toArray, List.set_cons_zero, List.set_cons_succ]
          refine wpAnyH_ready (rs := [13]) (by kernel_rfl) (by simp) ?_
          refine AllReadyH.cons (o := ⟨_, _, _, _, _, _⟩) rfl (fun K hK => ?_) AllReadyH.nil
          go_simp
          refine hK.out _ _ (by (refine keepB HBL1.out hcx hcy ?_; first | exact hHeld.1.alloc hHeld.1.size _ | exact ((Below.refl _ _).alloc (Nat.le_refl _) _).drew | exact (Below.refl _ _).drew.alloc (by simp) _ | exact (hHeld.1.setCell (p := ⟨_, _, none⟩) (Nat.le_refl _) _))) (fun hHeld => ?_)
          clear hK K
          try simp only [Act.put, List.setIfInBounds_toArray, List.set_cons_zero, List.set_cons_succ]
          refine wpAnyH_done (by kernel_rfl) ?_ _
          obtain ⟨V2, hV2, kV2, bV2⟩ := one_alloc U1 (triO X (Y + 1) false 46)
          rw [← hV2]
          have hcx1 : V2.drew.cell? P = some (.int .i64 X) := (bV2.cell HBL1.out).trans hcx
          have hcy1 : V2.drew.cell? ⟨P.block, P.off + 1, none⟩ = some (.int .i64 Y) := (bV2.cell (p := ⟨P.block, P.off + 1, none⟩) HBL1.out).trans hcy
          have HBL2 : Hid (P.block < V2.drew.heap.size) := Nat.lt_of_lt_of_le HBL1.out bV2.size
          have HK2 : Hid (V2.drew.heap[v2]? = some (triO X (Y + 1) false 46)) := by unfold Hid; rw [← hv2]; exact kV2
          have HK12 : Hid (V2.drew.heap[v1]? = some (triO X Y true 46)) := (bV2.block v1 (lt_of_block HK1.out)).trans HK1.out
          have HD2 : Hid (Below wr.heap.size wr V2.drew) := HD1.out.trans (bV2.drew.mono HD1.out.size)
          try rw [hv2]
          clear hV2 kV2 bV2 hcx hcy
          generalize V2.drew = U2 at *
          have hcx := hcx1
          have hcy := hcy1
          clear hcx1 hcy1
          have HL2 : Hid (wr.heap.size ≤ v2) := by unfold Hid; rw [← hv2]; exact HD1.out.size
          obtain ⟨z1, z2, z3⟩ := tri_cells HK2.out
          have f3 : ∀ o, U2.frozen? ⟨v2, o, none⟩ = false := fun o => blk_free HK2.out
          have HNE : Hid (v1 ≠ v2) := by have := lt_of_block HK1.out; unfold Hid; omega
          go_wp2_with fail
          refine wp_region_held_drew (S := fun w' => Below wr.heap.size wr w' ∧ w'.cell? P = some (.int .i64 X) ∧ w'.cell? ⟨P.block, P.off + 1, none⟩ = some (.int .i64 Y)) (by kernel_rfl) (by exact ⟨HD2.out.drew, hcx, hcy⟩) (fun hHeld => ?_)
          refine wpAnyH_take (i := 0) (oi := ⟨_, _, _, _, _, _⟩) (v := ?vap29085q1n0) rfl (by kernel_rfl) (by kernel_rfl) (by kernel_rfl) (fun _ _ _ h => h) (Or.inl ⟨by rfl, ?hap29085q1n0⟩) (by assumption) ?_
          case hap29085q1n0 => (intro w hSw; (try dsimp only at hSw); go_simp; try with_reducible rfl)
          try simp only [Act.put, List.setIfInBounds_toArray, List.set_cons_zero, List.set_cons_succ]
          refine wpAnyH_take (i := 1) (oi := ⟨_, _, _, _, _, _⟩) (v := ?vap29085q2n1) rfl (by kernel_rfl) (by kernel_rfl) (by kernel_rfl) (fun _ _ _ h => h) (Or.inl ⟨by rfl, ?hap29085q2n1⟩) (by assumption) ?_
          case hap29085q2n1 => (intro w hSw; (try dsimp only at hSw); go_simp; try with_reducible rfl)
          try simp only [Act.put, List.setIfInBounds_toArray, List.set_cons_zero, List.set_cons_succ]
          refine wpAnyH_take (i := 2) (oi := ⟨_, _, _, _, _, _⟩) (v := ?vap29085q3n2) rfl (by kernel_rfl) (by kernel_rfl) (by kernel_rfl) (fun _ _ _ h => h) (Or.inl ⟨by rfl, ?hap29085q3n2⟩) (by assumption) ?_
          case hap29085q3n2 => (intro w hSw; (try dsimp only at hSw); go_simp; try with_reducible rfl)
          try simp only [Act.put, List.setIfInBounds_toArray, List.set_cons_zero, List.set_cons_succ]
          refine wpAnyH_take (i := 3) (oi := ⟨_, _, _, _, _, _⟩) (v := ?vap29085q4n3) rfl (by kernel_rfl) (by kernel_rfl) (by kernel_rfl) (fun _ _ _ h => h) (Or.inl ⟨by rfl, ?hap29085q4n3⟩) (by assumption) ?_
          case hap29085q4n3 => (intro w hSw; (try dsimp only at hSw); go_simp; try with_reducible rfl)
          try simp only [Act.put, List.setIfInBounds_toArray, List.set_cons_zero, List.set_cons_succ]
          refine wpAnyH_take (i := 4) (oi := ⟨_, _, _, _, _, _⟩) (v := ?vap29085q5n4) rfl (by kernel_rfl) (by kernel_rfl) (by kernel_rfl) (fun _ _ _ h => h) (Or.inl ⟨by rfl, ?hap29085q5n4⟩) (by assumption) ?_
          case hap29085q5n4 => (intro w hSw; (try dsimp only at hSw); go_simp; try with_reducible rfl)
          try simp only [Act.put, List.setIfInBounds_toArray, List.set_cons_zero, List.set_cons_succ]
          refine wpAnyH_take (i := 5) (oi := ⟨_, _, _, _, _, _⟩) (v := ?vap29085q6n5) rfl (by kernel_rfl) (by kernel_rfl) (by kernel_rfl) (fun _ _ _ h => h) (Or.inl ⟨by rfl, ?hap29085q6n5⟩) (by assumption) ?_
          case hap29085q6n5 => (intro w hSw; (try dsimp only at hSw); go_simp; try with_reducible rfl)
          try simp only [Act.put, List.setIfInBounds_toArray, List.set_cons_zero, List.set_cons_succ]
          refine wpAnyH_take (i := 6) (oi := ⟨_, _, _, _, _, _⟩) (v := ?vap29085q7n6) rfl (by kernel_rfl) (by kernel_rfl) (by kernel_rfl) (fun _ _ _ h => h) (Or.inl ⟨by rfl, ?hap29085q7n6⟩) (by assumption) ?_
          case hap29085q7n6 => (intro w hSw; (try dsimp only at hSw); go_simp; try with_reducible rfl)
          try simp only [Act.put, List.setIfInBounds_toArray, List.set_cons_zero, List.set_cons_succ]
          refine wpAnyH_take (i := 7) (oi := ⟨_, _, _, _, _, _⟩) (v := ?vap29085q8n7) rfl (by kernel_rfl) (by kernel_rfl) (by kernel_rfl) (fun _ _ _ h => h) (Or.inl ⟨by rfl, ?hap29085q8n7⟩) (by assumption) ?_
          case hap29085q8n7 => (intro w hSw; (try dsimp only at hSw); go_simp; try with_reducible rfl)
          try simp only [Act.put, List.setIfInBounds_toArray, List.set_cons_zero, List.set_cons_succ]
          refine wpAnyH_take (i := 8) (oi := ⟨_, _, _, _, _, _⟩) (v := ?vap29085q9n8) rfl (by kernel_rfl) (by kernel_rfl) (by kernel_rfl) (fun _ _ _ h => h) (Or.inl ⟨by rfl, ?hap29085q9n8⟩) (by assumption) ?_
          case hap29085q9n8 => (intro w hSw; (try dsimp only at hSw); go_simp; try with_reducible rfl)
          try simp only [Act.put, List.setIfInBounds_toArray, List.set_cons_zero, List.set_cons_succ]
          refine wpAnyH_take (i := 9) (oi := ⟨_, _, _, _, _, _⟩) (v := ?vap29085q10n9) rfl (by kernel_rfl) (by kernel_rfl) (by kernel_rfl) (fun _ _ _ h => h) (Or.inl ⟨by rfl, ?hap29085q10n9⟩) (by assumption) ?_
          case hap29085q10n9 => (intro w hSw; (try dsimp only at hSw); go_simp; try with_reducible rfl)
          try simp only [Act.put, List.setIfInBounds_toArray, List.set_cons_zero, List.set_cons_succ]
          refine wpAnyH_take (i := 10) (oi := ⟨_, _, _, _, _, _⟩) (v := ?vap29085q11n10) rfl (by kernel_rfl) (by kernel_rfl) (by kernel_rfl) (fun _ _ _ h => h) (Or.inl ⟨by rfl, ?hap29085q11n10⟩) (by assumption) ?_
          case hap29085q11n10 => (intro w hSw; (try dsimp only at hSw); go_simp; try with_reducible rfl)
          try simp only [Act.put, List.setIfInBounds_toArray, List.set_cons_zero, List.set_cons_succ]
          refine wpAnyH_take (i := 11) (oi := ⟨_, _, _, _, _, _⟩) (v := ?vap29085q12n11) rfl (by kernel_rfl) (by kernel_rfl) (by kernel_rfl) (fun _ _ _ h => h) (Or.inl ⟨by rfl, ?hap29085q12n11⟩) (by assumption) ?_
          case hap29085q12n11 => (intro w hSw; (try dsimp only at hSw); go_simp; try with_reducible rfl)
          try simp only [Act.put, List.setIfInBounds_toArray, List.set_cons_zero, List.set_cons_succ]
          refine wpAnyH_ready (rs := [12]) (by kernel_rfl) (by simp) ?_
          refine AllReadyH.cons (o := ⟨_, _, _, _, _, _⟩) rfl (fun K hK => ?_) AllReadyH.nil
          go_simp
          refine hK.out _ _ (by (refine keepB HBL.out HCX0.out HCY0.out ?_; exact ((hHeld.1.setCell (p := ⟨v2, _, none⟩) HL2.out _).setCell (p := ⟨v2, _, none⟩) HL2.out _).setCell (p := ⟨v2, _, none⟩) HL2.out _)) (fun hHeld => ?_)
          clear hK K
          try simp only [Act.put, List.setIfInBounds_toArray, List.set_cons_zero, List.set_cons_succ]
          refine wpAnyH_done (by kernel_rfl) ?_ _
          generalize hU3 : World.drew _ = U3
          have HK3 : Hid (U3.heap[v2]? = some (triO (X + 1) Y true 46)) := by unfold Hid; rw [← hU3]; exact tri_put HK2.out (X + 1) Y true
          have HK13 : Hid (U3.heap[v1]? = some (triO X Y true 46)) := by unfold Hid; rw [← hU3]; exact (tri_oth HNE.out _ _ _).trans HK12.out
          have HD3 : Hid (Below wr.heap.size wr U3) := by unfold Hid; rw [← hU3]; exact (((HD2.out.setCell (p := ⟨v2, _, none⟩) HL2.out _).setCell (p := ⟨v2, _, none⟩) HL2.out _).setCell (p := ⟨v2, _, none⟩) HL2.out _).drew
          clear hU3 f3 z1 z2 z3 HK2 HK12 HD2
          have HK2 := HK3
          have HK12 := HK13
          have HD2 := HD3
          clear HK3 HK13 HD3
          obtain ⟨f0, f1, f2⟩ := tri_cells HK12.out
          obtain ⟨e0, e1, e2⟩ := tri_cells HK2.out
          have HA12 := Lib.hid (HA.out.below HD2.out)
          have HLB : Hid ((g ++ fillTo sq f k).length + 2 ≤ 1073741824) := by unfold Hid; rw [List.length_append, fillTo_len]; omega
          have HFX : Hid ((g ++ fillTo sq f k) ++ [(X, Y, true), (X + 1, Y, true)] = g ++ fillTo sq (fun j => if j = k then true else f j) (k + 1)) := by
            unfold Hid
            rw [fillTo, fillTo_ext sq (f := fun j => if j = k then true else f j) (f' := f) k (fun j hj => if_neg (by omega)), HXE.out, HYE.out]
            simp [quadL, prt]
          clear hcx hcy HK12 HK2 HD2
          go_wp2_with (at_builtin; refine wpList_pushes okDomino rfl _ _ rfl HA12.out rfl [(X, Y, true), (X + 1, Y, true)] 2 rfl (by omega) _ rfl _ rfl rfl HLB.out ?_; intro u10 w10 HA10 HG10)
          go_roundw
          case rel => exact ⟨k + 1, _, fun j => if j = k then true else f j, by omega, by go_num, rfl, by rw [← HFX.out]; exact HA10⟩
          case measure => simp [intOf]; omega
      · obtain rfl : k = sq.length := by omega
        have ht : decide ((sq.length : Int) < (sq.length : Int)) = false := by simp
        have HRD := Lib.hid (HA.out.1.rd okDomino)
        have HRG := Lib.hid ((HR8.out.below HA.out.2.1).more HA.out.2.1.size)
        have HKW := Lib.hid (blk_below HK8.out HA.out.2.1)
        have HSF := Lib.hid (HDF.out f)
        have HBX := Lib.hid (HB8.out.trans (HA.out.2.1.mono HB8.out.size))
        have HLW := Lib.hid (lt_of_block HKW.out)
        generalize g ++ fillTo sq f sq.length = GF at *
        clear HA
        go_wp2_with fail
        refine (at_any _ n _ 9 _ (HU.out.below HBW.out) (by omega) (by omega)).mono ?_
        rintro e w' ⟨z0, z00, z01, rfl, rfl⟩
        obtain ⟨kk, hkk⟩ : ∃ kk : Nat, 1 + z0 % 3 = (kk : Int) := ⟨(1 + z0 % 3).toNat, by omega⟩
        have hk13 : kk = 1 ∨ kk = 2 ∨ kk = 3 := by omega
        have HK13 := Lib.hid hk13
        have HCK : Hid ((profZ (setZ (diamZ kk)) == dcZ (kk : Int)) = true) := by
          unfold Hid
          have h9 : profZ (setZ (diamZ kk)) = 2 ^ (kk * (kk + 1) / 2) := dm_count hk13
          rw [h9]
          rcases hk13 with rfl | rfl | rfl <;> rfl
        have HOK : Hid (regOkB (diamZ kk) = true) := diam_ok kk (by omega)
        have hkw : IntKind.i64.wrap (1 + z0 % 3) = (kk : Int) := by rw [IntWalk.i64_in _ (by omega)]; exact hkk
        have m8 : wr.drew.cell? ⟨w5.heap.size, 0, none⟩ = some (.slice A5 dz.length k5) := by show wr.cell? _ = _; rw [blk_cell HKW.out]; rfl
        clear hk13
        go_wp2_with fail
        refine wp_region_held_drew (S := fun w' => Below wr.heap.size wr w' ∧ w'.cell? ⟨w5.heap.size, 0, none⟩ = some (.slice A5 dz.length k5)) (by kernel_rfl) (by exact ⟨(Below.refl _ _).drew, m8⟩) (fun hHeld => ?_)
        refine wpAnyH_take (i := 0) (oi := ⟨_, _, _, _, _, _⟩) (v := ?vap29080q1n0) rfl (by kernel_rfl) (by kernel_rfl) (by kernel_rfl) (fun _ _ _ h => h) (Or.inl ⟨by rfl, ?hap29080q1n0⟩) (by assumption) ?_
        case hap29080q1n0 => (intro w hSw; (try dsimp only at hSw); go_simp; try with_reducible rfl)
        try simp only [Act.put, List.setIfInBounds_toArray, List.set_cons_zero, List.set_cons_succ]
        refine wpAnyH_take (i := 1) (oi := ⟨_, _, _, _, _, _⟩) (v := ?vap29080q2n1) rfl (by kernel_rfl) (by kernel_rfl) (by kernel_rfl) (fun _ _ _ h => h) (Or.inl ⟨by rfl, ?hap29080q2n1⟩) (by assumption) ?_
        case hap29080q2n1 => (intro w hSw; (try dsimp only at hSw); go_simp; try with_reducible rfl)
        try simp only [Act.put, List.setIfInBounds_toArray, List.set_cons_zero, List.set_cons_succ]
        refine wpAnyH_ready (rs := [2]) (by kernel_rfl) (by simp) ?_
        refine AllReadyH.cons (o := ⟨_, _, _, _, _, _⟩) rfl (fun K hK => ?_) AllReadyH.nil
        go_simp
        go_at_call 28
        refine (specSortDominoes_any _ GF _ _ (HRD.out.below hHeld.1) hHeld.1.size).mono ?_
        rintro e w21 ⟨u21, rfl, ho21, hb21⟩
        have HS21 := Lib.hid (ho21.rd okDomino)
        clear ho21
        refine hK.out _ _ (by first | exact hHeld | exact keepR HLW.out hHeld hb21 | exact keepR HLW.out hHeld hb22 | exact keepR HLW.out hHeld hb23 | exact keepR HLW.out hHeld hb24) (fun hHeld => ?_)
        clear hK K
        try simp only [Act.put, List.setIfInBounds_toArray, List.set_cons_zero, List.set_cons_succ]
        refine wpAnyH_ready (rs := [3]) (by kernel_rfl) (by simp) ?_
        refine AllReadyH.cons (o := ⟨_, _, _, _, _, _⟩) rfl (fun K hK => ?_) AllReadyH.nil
        go_simp
        go_at_call 27
        refine (HIT.out _ _ _ _ ((HRG.out.below hHeld.1).more hHeld.1.size) HS21.out).mono ?_
        rintro e w22 ⟨rfl, hb22⟩
        rw [HSF.out]
        refine hK.out _ _ (by first | exact hHeld | exact keepR HLW.out hHeld hb21 | exact keepR HLW.out hHeld hb22 | exact keepR HLW.out hHeld hb23 | exact keepR HLW.out hHeld hb24) (fun hHeld => ?_)
        clear hK K
        try simp only [Act.put, List.setIfInBounds_toArray, List.set_cons_zero, List.set_cons_succ]
        refine wpAnyH_take (i := 4) (oi := ⟨_, _, _, _, _, _⟩) (v := ?vap29080q3n4) rfl (by kernel_rfl) (by kernel_rfl) (by kernel_rfl) (fun _ _ _ h => h) (Or.inl ⟨by rfl, ?hap29080q3n4⟩) (by assumption) ?_
        case hap29080q3n4 => (intro w hSw; (try dsimp only at hSw); go_simp; try with_reducible rfl)
        try simp only [Act.put, List.setIfInBounds_toArray, List.set_cons_zero, List.set_cons_succ]
        refine wpAnyH_take (i := 5) (oi := ⟨_, _, _, _, _, _⟩) (v := ?vap29080q4n5) rfl (by kernel_rfl) (by kernel_rfl) (by kernel_rfl) (fun _ _ _ h => h) (Or.inl ⟨by rfl, ?hap29080q4n5⟩) (by assumption) ?_
        case hap29080q4n5 => (intro w hSw; (try dsimp only at hSw); go_simp; try with_reducible rfl)
        try simp only [Act.put, List.setIfInBounds_toArray, List.set_cons_zero, List.set_cons_succ]
        refine wpAnyH_take (i := 8) (oi := ⟨_, _, _, _, _, _⟩) (v := ?vap29080q5n8) rfl (by kernel_rfl) (by kernel_rfl) (by kernel_rfl) (fun _ _ _ h => h) (Or.inl ⟨by rfl, ?hap29080q5n8⟩) (by assumption) ?_
        case hap29080q5n8 => (intro w hSw; (try dsimp only at hSw); go_simp; try with_reducible rfl)
        try simp only [Act.put, List.setIfInBounds_toArray, List.set_cons_zero, List.set_cons_succ]
        refine wpAnyH_ready (rs := [6]) (by kernel_rfl) (by simp) ?_
        refine AllReadyH.cons (o := ⟨_, _, _, _, _, _⟩) rfl (fun K hK => ?_) AllReadyH.nil
        go_simp
        go_at_call 24
        refine (Diamond_yes kk (by have := HK13.out; omega) _).mono ?_
        rintro e w23 ⟨u23, rfl, hr23, hb23⟩
        have HR23 := Lib.hid hr23
        clear hr23
        refine hK.out _ _ (by first | exact hHeld | exact keepR HLW.out hHeld hb21 | exact keepR HLW.out hHeld hb22 | exact keepR HLW.out hHeld hb23 | exact keepR HLW.out hHeld hb24) (fun hHeld => ?_)
        clear hK K
        try simp only [Act.put, List.setIfInBounds_toArray, List.set_cons_zero, List.set_cons_succ]
        refine wpAnyH_ready (rs := [7]) (by kernel_rfl) (by simp) ?_
        refine AllReadyH.cons (o := ⟨_, _, _, _, _, _⟩) rfl (fun K hK => ?_) AllReadyH.nil
        go_simp
        go_at_call 29
        refine (specCountTilings_yes _ _ _ _ HR23.out (Nat.le_refl _) HOK.out).mono ?_
        rintro e w24 ⟨rfl, hb24⟩
        refine hK.out _ _ (by first | exact hHeld | exact keepR HLW.out hHeld hb21 | exact keepR HLW.out hHeld hb22 | exact keepR HLW.out hHeld hb23 | exact keepR HLW.out hHeld hb24) (fun hHeld => ?_)
        clear hK K
        try simp only [Act.put, List.setIfInBounds_toArray, List.set_cons_zero, List.set_cons_succ]
        refine wpAnyH_ready (rs := [9]) (by kernel_rfl) (by simp) ?_
        refine AllReadyH.cons (o := ⟨_, _, _, _, _, _⟩) rfl (fun K hK => ?_) AllReadyH.nil
        go_simp
        go_at_call 30
        refine (DiamondCount_num _ (by have := HK13.out; omega) _).mono ?_
        rintro e w25 ⟨rfl, rfl⟩
        have hcq := HCK.out
        refine hK.out _ _ (by first | exact hHeld | exact keepR HLW.out hHeld hb21 | exact keepR HLW.out hHeld hb22 | exact keepR HLW.out hHeld hb23 | exact keepR HLW.out hHeld hb24) (fun hHeld => ?_)
        clear hK K
        try simp only [Act.put, List.setIfInBounds_toArray, List.set_cons_zero, List.set_cons_succ]
        refine wpAnyH_take (i := 10) (oi := ⟨_, _, _, _, _, _⟩) (v := ?vap29080q6n10) rfl (by kernel_rfl) (by kernel_rfl) (by kernel_rfl) (fun _ _ _ h => h) (Or.inl ⟨by rfl, ?hap29080q6n10⟩) (by assumption) ?_
        case hap29080q6n10 => (intro w hSw; (try dsimp only at hSw); go_simp; try with_reducible rfl)
        try simp only [Act.put, List.setIfInBounds_toArray, List.set_cons_zero, List.set_cons_succ]
        refine wpAnyH_take (i := 11) (oi := ⟨_, _, _, _, _, _⟩) (v := ?vap29080q7n11) rfl (by kernel_rfl) (by kernel_rfl) (by kernel_rfl) (fun _ _ _ h => h) (Or.inl ⟨by rfl, ?hap29080q7n11⟩) (by assumption) ?_
        case hap29080q7n11 => (intro w hSw; (try dsimp only at hSw); go_simp; try with_reducible rfl)
        try simp only [Act.put, List.setIfInBounds_toArray, List.set_cons_zero, List.set_cons_succ]
        refine wpAnyH_take (i := 12) (oi := ⟨_, _, _, _, _, _⟩) (v := ?vap29080q8n12) rfl (by kernel_rfl) (by kernel_rfl) (by kernel_rfl) (fun _ _ _ h => h) (Or.inl ⟨by rfl, ?hap29080q8n12⟩) (by assumption) ?_
        case hap29080q8n12 => (intro w hSw; (try dsimp only at hSw); go_simp; try with_reducible rfl)
        try simp only [Act.put, List.setIfInBounds_toArray, List.set_cons_zero, List.set_cons_succ]
        refine wpAnyH_ready (rs := [13]) (by kernel_rfl) (by simp) ?_
        refine AllReadyH.cons (o := ⟨_, _, _, _, _, _⟩) rfl (fun K hK => ?_) AllReadyH.nil
        go_simp
        go_at_call 30
        refine (DiamondCount_num _ (by omega) _).mono ?_
        rintro e w26 ⟨rfl, rfl⟩
        rw [show dcZ 4 = 1024 from rfl]
        refine hK.out _ _ (by first | exact hHeld | exact keepR HLW.out hHeld hb21 | exact keepR HLW.out hHeld hb22 | exact keepR HLW.out hHeld hb23 | exact keepR HLW.out hHeld hb24) (fun hHeld => ?_)
        clear hK K
        try simp only [Act.put, List.setIfInBounds_toArray, List.set_cons_zero, List.set_cons_succ]
        refine wpAnyH_take (i := 14) (oi := ⟨_, _, _, _, _, _⟩) (v := ?vap29080q9n14) rfl (by kernel_rfl) (by kernel_rfl) (by kernel_rfl) (fun _ _ _ h => h) (Or.inl ⟨by rfl, ?hap29080q9n14⟩) (by assumption) ?_
        case hap29080q9n14 => (intro w hSw; (try dsimp only at hSw); go_simp; try with_reducible rfl)
        try simp only [Act.put, List.setIfInBounds_toArray, List.set_cons_zero, List.set_cons_succ]
        refine wpAnyH_take (i := 15) (oi := ⟨_, _, _, _, _, _⟩) (v := ?vap29080q10n15) rfl (by kernel_rfl) (by kernel_rfl) (by kernel_rfl) (fun _ _ _ h => h) (Or.inl ⟨by rfl, ?hap29080q10n15⟩) (by assumption) ?_
        case hap29080q10n15 => (intro w hSw; (try dsimp only at hSw); go_simp; try with_reducible rfl)
        try simp only [Act.put, List.setIfInBounds_toArray, List.set_cons_zero, List.set_cons_succ]
        refine wpAnyH_take (i := 16) (oi := ⟨_, _, _, _, _, _⟩) (v := ?vap29080q11n16) rfl (by kernel_rfl) (by kernel_rfl) (by kernel_rfl) (fun _ _ _ h => h) (Or.inl ⟨by rfl, ?hap29080q11n16⟩) (by assumption) ?_
        case hap29080q11n16 => (intro w hSw; (try dsimp only at hSw); go_simp; try with_reducible rfl)
        try simp only [Act.put, List.setIfInBounds_toArray, List.set_cons_zero, List.set_cons_succ]
        refine wpAnyH_done (by kernel_rfl) ?_ _
        have HFIN := Lib.hid (HBX.out.trans (hHeld.1.mono HBX.out.size))
        clear hcq
        go_wp2_with fail
        go_ret
        exact ⟨rfl, HFIN.out⟩
end Go.Proofs.Ytehnbalbpfmijaa
