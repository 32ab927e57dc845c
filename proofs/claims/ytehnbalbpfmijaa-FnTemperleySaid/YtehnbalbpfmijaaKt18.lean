/- What the claim's walk rests on: parts TotI, Flip. -/
import Derived.Test.YtehnbalbpfmijaaKt15
import Derived.Test.YtehnbalbpfmijaaKt16
import Derived.Test.YtehnbalbpfmijaaKt17
import Derived.Test.YtehnbalbpfmijaaKt12
import Derived.Test.YtehnbalbpfmijaaKt13
import Derived.Test.YtehnbalbpfmijaaKt14
import Derived.StillTailTactics
import Derived.Deep.DeepCutAuto
import Derived.Deep.Cut
import Derived.Deep.RegionHeld3
namespace Go.Proofs.Ytehnbalbpfmijaa
open Go.RowKit
set_option linter.unusedVariables false

theorem inW_mono {W H W' H' : Int} {c : Int × Int} (h : inW W H c) (h1 : W ≤ W') (h2 : H ≤ H') : inW W' H' c := ⟨⟨h.1.1, Int.lt_of_lt_of_le h.1.2 h1⟩, h.2.1, Int.lt_of_lt_of_le h.2.2 h2⟩
theorem hasL_dec (ls : List Lk) (l : Lk) : hasL ls l = decide (l ∈ ls) := by
  obtain ⟨x, y, d⟩ := l
  have h := lkEq_none ls x y d
  unfold hasL
  rw [decide_eq_decide]
  constructor
  · intro h1
    refine Decidable.byContradiction fun h2 => ?_
    have := h.2 h2
    simp only at h1
    omega
  · intro h1
    refine Decidable.byContradiction fun h2 => ?_
    exact h.1 (by simp only at h2; omega) h1
theorem inT_has (L : List Lk) (l : Lk) : inT L l = (hasL L (lkA l) || hasL L (lkB l)) := by rw [hasL_dec, hasL_dec]; rfl
theorem bel_alloc {V w' : World} (h : Below V.heap.size V w') (o : Obj) : Below V.heap.size V (w'.alloc o) := h.alloc h.size _
theorem tri3 (V : World) (o1 o2 o3 : Obj) : (((V.alloc o1).alloc o2).alloc o3).drew.heap[V.heap.size]? = some o1 ∧ (((V.alloc o1).alloc o2).alloc o3).drew.heap[V.heap.size + 1]? = some o2 ∧ (((V.alloc o1).alloc o2).alloc o3).drew.heap[V.heap.size + 2]? = some o3 ∧ Below V.heap.size V (((V.alloc o1).alloc o2).alloc o3).drew := by
  obtain ⟨W, hW, k0, k1, k2, hb⟩ := three_alloc V o1 o2 o3
  rw [← hW]
  exact ⟨k0, k1, k2, hb.drew⟩
/-- Three cells of the call's own. -/
structure Tri3 (V wc : World) (n1 n2 n3 : Nat) (x1 y1 x2 y2 x3 y3 : Int) : Prop where
  b : Below V.heap.size V wc
  l1 : V.heap.size ≤ n1
  l3 : V.heap.size ≤ n3
  ne12 : n1 ≠ n2
  ne13 : n1 ≠ n3
  ne23 : n2 ≠ n3
  k1 : wc.heap[n1]? = some (.cells #[.int .i64 x1, .int .i64 y1] 44)
  k2 : wc.heap[n2]? = some (.cells #[.int .i64 x2, .int .i64 y2] 44)
  k3 : wc.heap[n3]? = some (.cells #[.int .i64 x3, .int .i64 y3] 44)
theorem over_lk {a b : Int} (e : Bool) : overL (2 * a) (2 * b) (lkC (a, b, e)).1 (lkC (a, b, e)).2 = lkA (a, b, e) ∧ overL (lkC (a, b, e)).1 (lkC (a, b, e)).2 (if e then 2 * a else 2 * a + 2) (if e then 2 * b + 2 else 2 * b) = lkB (a, b, e) := by
  unfold overL lkC lkA lkB
  cases e
  · refine ⟨?_, ?_⟩
    · simp only [Bool.false_eq_true, if_false]
      rw [show min (2 * a) (2 * a + 1) = 2 * a by omega, show min (2 * b) (2 * b) = 2 * b by omega, show (2 * a == 2 * a + 1) = false by rw [beq_eq_false_iff_ne]; omega]
    · simp only [Bool.false_eq_true, if_false]
      rw [show min (2 * a + 1) (2 * a + 2) = 2 * a + 1 by omega, show min (2 * b) (2 * b) = 2 * b by omega, show (2 * a + 1 == 2 * a + 2) = false by rw [beq_eq_false_iff_ne]; omega]
  · refine ⟨?_, ?_⟩
    · simp only [if_true]
      rw [show min (2 * b) (2 * b + 1) = 2 * b by omega, show min (2 * a) (2 * a) = 2 * a by omega, show (2 * a == 2 * a) = true by simp]
    · simp only [if_true]
      rw [show min (2 * b + 1) (2 * b + 2) = 2 * b + 1 by omega, show min (2 * a) (2 * a) = 2 * a by omega, show (2 * a == 2 * a) = true by simp]
theorem next_lk {a b : Int} (ha : 0 ≤ a ∧ a ≤ 3) (hb : 0 ≤ b ∧ b ≤ 3) (e : Bool) (hx : inW 7 7 (lkC (a, b, e))) (h2 : inW 7 7 (if e then 2 * a else 2 * a + 2, if e then 2 * b + 2 else 2 * b)) : nextB (2 * a) (2 * b) (lkC (a, b, e)).1 (lkC (a, b, e)).2 ∧ nextB (lkC (a, b, e)).1 (lkC (a, b, e)).2 (if e then 2 * a else 2 * a + 2) (if e then 2 * b + 2 else 2 * b) := by
  unfold inW at hx h2
  unfold nextB lkC at *
  cases e <;> simp at hx h2 ⊢ <;> omega

set_option maxRecDepth 100000 in
set_option maxHeartbeats 8000000 in
theorem Tot_any (p q : Int) (v : Value) (L : List Lk) (B : Nat) (w : World) (h : RdF elDomino w B v L) (hB : B ≤ w.heap.size) :
    Calls Try.prog 45 #[.int .i64 p, .int .i64 q, v] w (RetTot w (totB p q L) (totZ p q L)) := by
  have HV := Lib.hid h
  obtain ⟨A, c, rfl, g1, g2, _⟩ := h
  unfold maxLen at g2
  cases hg : gridB p q
  · have hno : totB p q L = false := tot_grid hg
    have hz : totZ p q L = [] := by unfold totZ; rw [hno]; rfl
    rw [hno, hz]
    clear hno hz
    go_enter Try.func45, Try.ntmps45
    go_wp2_with fail
    refine (GridOk_any _ _ _).mono ?_
    rintro e w1 ⟨rfl, rfl⟩
    rw [hg]
    go_wp2_with fail
    refine bodyPost_ret (v := .tuple #[.slice none 0 0, .bool false]) (by simp [results, Try.results45, go_sem]) rfl ⟨_, rfl, OwnF.nil, Below.refl _ _⟩
  · have hb := (gridB_iff _ _).1 hg
    obtain ⟨gw, rfl⟩ := Int.eq_ofNat_of_zero_le (show 0 ≤ p by omega)
    obtain ⟨gh, rfl⟩ := Int.eq_ofNat_of_zero_le (show 0 ≤ q by omega)
    obtain ⟨all, HALL⟩ : ∃ x, Hid (linksZ (gw : Int) gh = x) := ⟨_, rfl⟩
    have HSL : Hid (∀ l, l ∈ all → ((0 ≤ l.1 ∧ l.1 ≤ 3) ∧ 0 ≤ l.2.1 ∧ l.2.1 ≤ 3) ∧ nextB (2 * l.1) (2 * l.2.1) (lkC l).1 (lkC l).2 ∧ nextB (lkC l).1 (lkC l).2 (if l.2.2 then 2 * l.1 else 2 * l.1 + 2) (if l.2.2 then 2 * l.2.1 + 2 else 2 * l.2.1)) := fun l hl => by
      rw [← HALL.out] at hl
      obtain ⟨⟨h1, h1b⟩, h2, h3⟩ := link_box hg hl
      have hfar := link_far hg hl
      obtain ⟨a, b, e⟩ := l
      refine ⟨⟨h2, h3⟩, next_lk h2 h3 e ?_ ?_⟩
      · exact inW_mono h1 (by omega) (by omega)
      · exact hfar
    have HLEN : Hid (all.length ≤ 32) := by rw [← HALL.out]; exact linksZ_len _ _
    have HTB : Hid (totB gw gh L = (treeB gw gh (all.filter (inT L)) && decide (tilQ gw gh (all.filter (inT L)) = L))) := by
      unfold Hid totB toT; rw [hg, HALL.out]; rfl
    have HTZ : Hid (totZ gw gh L = if (treeB gw gh (all.filter (inT L)) && decide (tilQ gw gh (all.filter (inT L)) = L)) then all.filter (inT L) else []) := by
      unfold Hid totZ; rw [HTB.out]; unfold toT; rw [HALL.out]
    have HIN : Hid (∀ l, inT L l = (hasL L (lkA l) || hasL L (lkB l))) := inT_has L
    rw [HTB.out, HTZ.out]
    clear HTB HTZ
    generalize inT L = pT at *
    obtain ⟨T, HTT⟩ : ∃ T, Hid (all.filter pT = T) := ⟨_, rfl⟩
    rw [HTT.out]
    have HSPT := Lib.hid (fun (V : World) (u' : Value) (hr : RdF elLink V V.heap.size u' T) => Til_any gw gh u' T V.heap.size V hr (Nat.le_refl _))
    generalize treeB gw gh T = tb at *
    generalize tilQ gw gh T = TQ at *
    obtain ⟨db, HDB⟩ : ∃ b, Hid (decide (TQ = L) = b) := ⟨_, rfl⟩
    rw [HDB.out]
    obtain ⟨OZ, HOZ⟩ : ∃ z, Hid ((if (tb && db) = true then T else []) = z) := ⟨_, rfl⟩
    rw [HOZ.out]
    have HA4 : Hid (Acc elLink w w.heap.size (w.alloc (.cells #[] 68)) (.slice (some ⟨w.heap.size, 0, none⟩) 0 0) []) := Acc.start w
    have HNN : Hid (w.heap.size < (w.alloc (.cells #[] 68)).heap.size) := by simp [Hid]
    go_enter Try.func45, Try.ntmps45
    go_wp2_with fail
    refine (GridOk_any _ _ _).mono ?_
    rintro e w1 ⟨rfl, rfl⟩
    rw [hg]
    go_wp2_with fail
    generalize w.alloc (.cells #[] 68) = W4 at *
    refine (LinksOf_any _ _ W4).mono ?_
    rintro e w5 ⟨vA, rfl, ho5, hb5⟩
    rw [HALL.out] at ho5
    have HA5 := Lib.hid (HA4.out.below hb5)
    have HLO := Lib.hid ho5.lt
    have HRD := Lib.hid (ho5.rd okLink)
    obtain ⟨A1, c1, hv1, gg1, gg2, _⟩ := ho5.rd okLink
    unfold maxLen at gg2
    subst hv1
    have HK5 : Hid (KeepT w5 A1 all (.slice (some ⟨w.heap.size, 0, none⟩) 0 0)) := KeepT.of HRD.out (lo := W4.heap.size) (fun g hg => (HLO.out g hg).1) (fun g hg => by simp only [Value.ownBlock, Option.some.injEq] at hg; have := HNN.out; omega)
    have hal := HLEN.out
    clear ho5 hb5 HA4 HRD HLO
    go_wp2_with fail
    go_loopw [8, 29] (fun o i wr => ∃ (k : Nat) (u : Value), u = o ∧ k ≤ all.length ∧ i = .int .i64 (k : Int) ∧ Hid (KeepT wr A1 all u) ∧ Hid (Acc elLink w w.heap.size wr u ((all.take k).filter pT))) (fun _ i _ => all.length - (intOf i).toNat)
    case atStart => exact ⟨0, _, rfl, Nat.zero_le _, rfl, HK5, HA5⟩
    case round =>
      obtain ⟨k, u, rfl, hk, rfl, HK, HA⟩ := hrel
      by_cases hlt : k < all.length
      · have ht : decide ((k : Int) < (all.length : Int)) = true := by simp only [decide_eq_true_eq]; omega
        obtain ⟨⟨hl1, hl2⟩, hn1, hn2⟩ := HSL.out all[k] (List.getElem_mem hlt)
        have HFT := Lib.hid (filter_take pT all k hlt)
        have HIK := Lib.hid (HIN.out all[k])
        obtain ⟨ad, rfl, had, hne, hx, hy, hz⟩ := HK.out.cl k hlt
        have e1 : lx all k = all[k].1 := by simp [lx, hlt]
        have e2 : ly all k = all[k].2.1 := by simp [ly, hlt]
        have e3 : ld all k = all[k].2.2 := by simp [ld, hlt]
        rw [e1] at hx; rw [e2] at hy; rw [e3] at hz
        clear e1 e2 e3
        generalize all[k] = l at *
        obtain ⟨a, b, e⟩ := l
        simp only at hl1 hl2 hn1 hn2 hx hy hz
        obtain ⟨⟨a0, a3⟩, b0, b3⟩ := And.intro hl1 hl2
        have hk0 : (0 : Int) ≤ (k : Int) := by omega
        have hk1 : (k : Int) < (all.length : Int) := by omega
        have v1 : IntKind.i64.wrap (2 * a) = 2 * a := IntWalk.i64_in _ (by omega)
        have v2 : IntKind.i64.wrap (2 * a + 1) = 2 * a + 1 := IntWalk.i64_in _ (by omega)
        have v3 : IntKind.i64.wrap (2 * b) = 2 * b := IntWalk.i64_in _ (by omega)
        have v4 : IntKind.i64.wrap (2 * b + 1) = 2 * b + 1 := IntWalk.i64_in _ (by omega)
        have v5 : IntKind.i64.wrap (2 * a + 2) = 2 * a + 2 := IntWalk.i64_in _ (by omega)
        have v6 : IntKind.i64.wrap (2 * b + 2) = 2 * b + 2 := IntWalk.i64_in _ (by omega)
        obtain ⟨X, Y, HXY⟩ : ∃ X Y, Hid (lkC (a, b, e) = (X, Y)) := ⟨_, _, rfl⟩
        obtain ⟨PX, HPX⟩ : ∃ P, Hid ((if e then 2 * a else 2 * a + 2) = P) := ⟨_, rfl⟩
        obtain ⟨PY, HPY⟩ : ∃ P, Hid ((if e then 2 * b + 2 else 2 * b) = P) := ⟨_, rfl⟩
        have HOV := Lib.hid (over_lk (a := a) (b := b) e)
        rw [HXY.out, HPX.out, HPY.out] at HOV
        rw [HXY.out] at hn1
        rw [HXY.out, HPX.out, HPY.out] at hn2
        have HN1 : Hid (nextB (2 * a) (2 * b) X Y) := hn1
        have HN2 : Hid (nextB X Y PX PY) := hn2
        clear hn1 hn2
        go_upto_region 7 with (fail)
        obtain ⟨V, hV, kV, bV⟩ := one_alloc wr (triO a b e 68)
        rw [← hV]
        have HK6 := Lib.hid (HK.out.below bV)
        have HA6 := Lib.hid (HA.out.below bV)
        obtain ⟨z0, z1, z2⟩ := tri_cells kV
        have HL10 := Lib.hid (lt_of_block kV)
        have HAD : Hid (ad.block < V.heap.size) := Nat.lt_of_lt_of_le had bV.size
        have HKV := Lib.hid kV
        obtain ⟨n10, hn10⟩ : ∃ n10, wr.heap.size = n10 := ⟨_, rfl⟩
        rw [hn10] at HL10 HKV z0 z1 z2 ⊢
        clear hV bV hx hy hz HK HA kV hn10
        go_cut [11, 12, 13] (fun s t r wx => ∃ n11 n12 n13, s = .pointer (some ⟨n11, 0, none⟩) ∧ t = .pointer (some ⟨n12, 0, none⟩) ∧ r = .pointer (some ⟨n13, 0, none⟩) ∧ Hid (Tri3 V wx n11 n12 n13 (2 * a + 1) (2 * b) (2 * a) (2 * b) (2 * a + 2) (2 * b)))
        case first =>
          go_wp2_with fail
          refine wp_region_held_drew (S := fun w' => Below V.heap.size V w' ∧ w'.cell? ⟨n10, 0, none⟩ = some (.int .i64 a) ∧ w'.cell? ⟨n10, 1, none⟩ = some (.int .i64 b)) (by kernel_rfl) (by exact ⟨(Below.refl _ _).drew, z0, z1⟩) (fun hHeld => ?_)
          refine wpAnyH_take (i := 0) (oi := ⟨_, _, _, _, _, _⟩) (v := ?vap4953q1n0) rfl (by kernel_rfl) (by kernel_rfl) (by kernel_rfl) (fun _ _ _ h => h) (Or.inl ⟨by rfl, ?hap4953q1n0⟩) (by assumption) ?_
          case hap4953q1n0 => (intro w hSw; (try dsimp only at hSw); go_simp; try with_reducible rfl)
          try simp only [Act.put, List.setIfInBounds_toArray, List.set_cons_zero, List.set_cons_succ]
          refine wpAnyH_take (i := 1) (oi := ⟨_, _, _, _, _, _⟩) (v := ?vap4953q2n1) rfl (by kernel_rfl) (by kernel_rfl) (by kernel_rfl) (fun _ _ _ h => h) (Or.inl ⟨by rfl, ?hap4953q2n1⟩) (by assumption) ?_
          case hap4953q2n1 => (intro w hSw; (try dsimp only at hSw); go_simp; try with_reducible rfl)
          try simp only [Act.put, List.setIfInBounds_toArray, List.set_cons_zero, List.set_cons_succ]
          refine wpAnyH_take (i := 2) (oi := ⟨_, _, _, _, _, _⟩) (v := ?vap4953q3n2) rfl (by kernel_rfl) (by kernel_rfl) (by kernel_rfl) (fun _ _ _ h => h) (Or.inl ⟨by rfl, ?hap4953q3n2⟩) (by assumption) ?_
          case hap4953q3n2 => (intro w hSw; (try dsimp only at hSw); go_simp; try with_reducible rfl)
          try simp only [Act.put, List.setIfInBounds_toArray, List.set_cons_zero, List.set_cons_succ]
          refine wpAnyH_take (i := 3) (oi := ⟨_, _, _, _, _, _⟩) (v := ?vap4953q4n3) rfl (by kernel_rfl) (by kernel_rfl) (by kernel_rfl) (fun _ _ _ h => h) (Or.inl ⟨by rfl, ?hap4953q4n3⟩) (by assumption) ?_
          case hap4953q4n3 => (intro w hSw; (try dsimp only at hSw); go_simp; try with_reducible rfl)
          try simp only [Act.put, List.setIfInBounds_toArray, List.set_cons_zero, List.set_cons_succ]
          refine wpAnyH_take (i := 4) (oi := ⟨_, _, _, _, _, _⟩) (v := ?vap4953q5n4) rfl (by kernel_rfl) (by kernel_rfl) (by kernel_rfl) (fun _ _ _ h => h) (Or.inl ⟨by rfl, ?hap4953q5n4⟩) (by assumption) ?_
          case hap4953q5n4 => (intro w hSw; (try dsimp only at hSw); go_simp; try with_reducible rfl)
          try simp only [Act.put, List.setIfInBounds_toArray, List.set_cons_zero, List.set_cons_succ]
          refine wpAnyH_take (i := 5) (oi := ⟨_, _, _, _, _, _⟩) (v := ?vap4953q6n5) rfl (by kernel_rfl) (by kernel_rfl) (by kernel_rfl) (fun _ _ _ h => h) (Or.inl ⟨by rfl, ?hap4953q6n5⟩) (by assumption) ?_
          case hap4953q6n5 => (intro w hSw; (try dsimp only at hSw); go_simp; try with_reducible rfl)
          try simp only [Act.put, List.setIfInBounds_toArray, List.set_cons_zero, List.set_cons_succ]
          refine wpAnyH_take (i := 6) (oi := ⟨_, _, _, _, _, _⟩) (v := ?vap4953q7n6) rfl (by kernel_rfl) (by kernel_rfl) (by kernel_rfl) (fun _ _ _ h => h) (Or.inl ⟨by rfl, ?hap4953q7n6⟩) (by assumption) ?_
          case hap4953q7n6 => (intro w hSw; (try dsimp only at hSw); go_simp; try with_reducible rfl)
          try simp only [Act.put, List.setIfInBounds_toArray, List.set_cons_zero, List.set_cons_succ]
          refine wpAnyH_take (i := 7) (oi := ⟨_, _, _, _, _, _⟩) (v := ?vap4953q8n7) rfl (by kernel_rfl) (by kernel_rfl) (by kernel_rfl) (fun _ _ _ h => h) (Or.inl ⟨by rfl, ?hap4953q8n7⟩) (by assumption) ?_
          case hap4953q8n7 => (intro w hSw; (try dsimp only at hSw); go_simp; try with_reducible rfl)
          try simp only [Act.put, List.setIfInBounds_toArray, List.set_cons_zero, List.set_cons_succ]
          refine wpAnyH_take (i := 8) (oi := ⟨_, _, _, _, _, _⟩) (v := ?vap4953q9n8) rfl (by kernel_rfl) (by kernel_rfl) (by kernel_rfl) (fun _ _ _ h => h) (Or.inl ⟨by rfl, ?hap4953q9n8⟩) (by assumption) ?_
          case hap4953q9n8 => (intro w hSw; (try dsimp only at hSw); go_simp; try with_reducible rfl)
          try simp only [Act.put, List.setIfInBounds_toArray, List.set_cons_zero, List.set_cons_succ]
          refine wpAnyH_take (i := 9) (oi := ⟨_, _, _, _, _, _⟩) (v := ?vap4953q10n9) rfl (by kernel_rfl) (by kernel_rfl) (by kernel_rfl) (fun _ _ _ h => h) (Or.inl ⟨by rfl, ?hap4953q10n9⟩) (by assumption) ?_
          case hap4953q10n9 => (intro w hSw; (try dsimp only at hSw); go_simp; try with_reducible rfl)
          try simp only [Act.put, List.setIfInBounds_toArray, List.set_cons_zero, List.set_cons_succ]
          refine wpAnyH_take (i := 10) (oi := ⟨_, _, _, _, _, _⟩) (v := ?vap4953q11n10) rfl (by kernel_rfl) (by kernel_rfl) (by kernel_rfl) (fun _ _ _ h => h) (Or.inl ⟨by rfl, ?hap4953q11n10⟩) (by assumption) ?_
          case hap4953q11n10 => (intro w hSw; (try dsimp only at hSw); go_simp; try with_reducible rfl)
          try simp only [Act.put, List.setIfInBounds_toArray, List.set_cons_zero, List.set_cons_succ]
          refine wpAnyH_take (i := 11) (oi := ⟨_, _, _, _, _, _⟩) (v := ?vap4953q12n11) rfl (by kernel_rfl) (by kernel_rfl) (by kernel_rfl) (fun _ _ _ h => h) (Or.inl ⟨by rfl, ?hap4953q12n11⟩) (by assumption) ?_
          case hap4953q12n11 => (intro w hSw; (try dsimp only at hSw); go_simp; try with_reducible rfl)
          try simp only [Act.put, List.setIfInBounds_toArray, List.set_cons_zero, List.set_cons_succ]
          refine wpAnyH_take (i := 12) (oi := ⟨_, _, _, _, _, _⟩) (v := ?vap4953q13n12) rfl (by kernel_rfl) (by kernel_rfl) (by kernel_rfl) (fun _ _ _ h => h) (Or.inl ⟨by rfl, ?hap4953q13n12⟩) (by assumption) ?_
          case hap4953q13n12 => (intro w hSw; (try dsimp only at hSw); go_simp; try with_reducible rfl)
          try simp only [Act.put, List.setIfInBounds_toArray, List.set_cons_zero, List.set_cons_succ]
          refine wpAnyH_take (i := 13) (oi := ⟨_, _, _, _, _, _⟩) (v := ?vap4953q14n13) rfl (by kernel_rfl) (by kernel_rfl) (by kernel_rfl) (fun _ _ _ h => h) (Or.inl ⟨by rfl, ?hap4953q14n13⟩) (by assumption) ?_
          case hap4953q14n13 => (intro w hSw; (try dsimp only at hSw); go_simp; try with_reducible rfl)
          try simp only [Act.put, List.setIfInBounds_toArray, List.set_cons_zero, List.set_cons_succ]
          refine wpAnyH_take (i := 14) (oi := ⟨_, _, _, _, _, _⟩) (v := ?vap4953q15n14) rfl (by kernel_rfl) (by kernel_rfl) (by kernel_rfl) (fun _ _ _ h => h) (Or.inl ⟨by rfl, ?hap4953q15n14⟩) (by assumption) ?_
          case hap4953q15n14 => (intro w hSw; (try dsimp only at hSw); go_simp; try with_reducible rfl)
          try simp only [Act.put, List.setIfInBounds_toArray, List.set_cons_zero, List.set_cons_succ]
          refine wpAnyH_take (i := 15) (oi := ⟨_, _, _, _, _, _⟩) (v := ?vap4953q16n15) rfl (by kernel_rfl) (by kernel_rfl) (by kernel_rfl) (fun _ _ _ h => h) (Or.inl ⟨by rfl, ?hap4953q16n15⟩) (by assumption) ?_
          case hap4953q16n15 => (intro w hSw; (try dsimp only at hSw); go_simp; try with_reducible rfl)
          try simp only [Act.put, List.setIfInBounds_toArray, List.set_cons_zero, List.set_cons_succ]
          refine wpAnyH_take (i := 16) (oi := ⟨_, _, _, _, _, _⟩) (v := ?vap4953q17n16) rfl (by kernel_rfl) (by kernel_rfl) (by kernel_rfl) (fun _ _ _ h => h) (Or.inl ⟨by rfl, ?hap4953q17n16⟩) (by assumption) ?_
          case hap4953q17n16 => (intro w hSw; (try dsimp only at hSw); go_simp; try with_reducible rfl)
          try simp only [Act.put, List.setIfInBounds_toArray, List.set_cons_zero, List.set_cons_succ]
          refine wpAnyH_take (i := 17) (oi := ⟨_, _, _, _, _, _⟩) (v := ?vap4953q18n17) rfl (by kernel_rfl) (by kernel_rfl) (by kernel_rfl) (fun _ _ _ h => h) (Or.inl ⟨by rfl, ?hap4953q18n17⟩) (by assumption) ?_
          case hap4953q18n17 => (intro w hSw; (try dsimp only at hSw); go_simp; try with_reducible rfl)
          try simp only [Act.put, List.setIfInBounds_toArray, List.set_cons_zero, List.set_cons_succ]
          refine wpAnyH_take (i := 18) (oi := ⟨_, _, _, _, _, _⟩) (v := ?vap4953q19n18) rfl (by kernel_rfl) (by kernel_rfl) (by kernel_rfl) (fun _ _ _ h => h) (Or.inl ⟨by rfl, ?hap4953q19n18⟩) (by assumption) ?_
          case hap4953q19n18 => (intro w hSw; (try dsimp only at hSw); go_simp; try with_reducible rfl)
          try simp only [Act.put, List.setIfInBounds_toArray, List.set_cons_zero, List.set_cons_succ]
          refine wpAnyH_take (i := 19) (oi := ⟨_, _, _, _, _, _⟩) (v := ?vap4953q20n19) rfl (by kernel_rfl) (by kernel_rfl) (by kernel_rfl) (fun _ _ _ h => h) (Or.inl ⟨by rfl, ?hap4953q20n19⟩) (by assumption) ?_
          case hap4953q20n19 => (intro w hSw; (try dsimp only at hSw); go_simp; try with_reducible rfl)
          try simp only [Act.put, List.setIfInBounds_toArray, List.set_cons_zero, List.set_cons_succ]
          refine wpAnyH_take (i := 20) (oi := ⟨_, _, _, _, _, _⟩) (v := ?vap4953q21n20) rfl (by kernel_rfl) (by kernel_rfl) (by kernel_rfl) (fun _ _ _ h => h) (Or.inl ⟨by rfl, ?hap4953q21n20⟩) (by assumption) ?_
          case hap4953q21n20 => (intro w hSw; (try dsimp only at hSw); go_simp; try with_reducible rfl)
          try simp only [Act.put, List.setIfInBounds_toArray, List.set_cons_zero, List.set_cons_succ]
          refine wpAnyH_take (i := 21) (oi := ⟨_, _, _, _, _, _⟩) (v := ?vap4953q22n21) rfl (by kernel_rfl) (by kernel_rfl) (by kernel_rfl) (fun _ _ _ h => h) (Or.inl ⟨by rfl, ?hap4953q22n21⟩) (by assumption) ?_
          case hap4953q22n21 => (intro w hSw; (try dsimp only at hSw); go_simp; try with_reducible rfl)
          try simp only [Act.put, List.setIfInBounds_toArray, List.set_cons_zero, List.set_cons_succ]
          refine wpAnyH_take (i := 22) (oi := ⟨_, _, _, _, _, _⟩) (v := ?vap4953q23n22) rfl (by kernel_rfl) (by kernel_rfl) (by kernel_rfl) (fun _ _ _ h => h) (Or.inl ⟨by rfl, ?hap4953q23n22⟩) (by assumption) ?_
          case hap4953q23n22 => (intro w hSw; (try dsimp only at hSw); go_simp; try with_reducible rfl)
          try simp only [Act.put, List.setIfInBounds_toArray, List.set_cons_zero, List.set_cons_succ]
          refine wpAnyH_ready (rs := [23, 24, 25]) (by kernel_rfl) (by simp) ?_
          refine AllReadyH.cons (o := ⟨_, _, _, _, _, _⟩) rfl (fun K hK => ?cp4953q24n23) (AllReadyH.cons (o := ⟨_, _, _, _, _, _⟩) rfl (fun K hK => ?cp4953q24n24) (AllReadyH.cons (o := ⟨_, _, _, _, _, _⟩) rfl (fun K hK => ?cp4953q24n25) AllReadyH.nil))
          case cp4953q24n23 =>
            go_simp
            refine hK.out _ _ (by refine keepN HL10.out z0 z1 ?_; repeat (first | exact Below.refl _ _ | apply Below.drew | apply bel_alloc)) (fun hHeld => ?_)
            clear hK K
            try simp only [Act.put, List.setIfInBounds_toArray, List.set_cons_zero, List.set_cons_succ]
            refine wpAnyH_ready (rs := [24, 25]) (by kernel_rfl) (by simp) ?_
            refine AllReadyH.cons (o := ⟨_, _, _, _, _, _⟩) rfl (fun K hK => ?cp4953q25n24) (AllReadyH.cons (o := ⟨_, _, _, _, _, _⟩) rfl (fun K hK => ?cp4953q25n25) AllReadyH.nil)
            case cp4953q25n24 =>
              go_simp
              refine hK.out _ _ (by refine keepN HL10.out z0 z1 ?_; repeat (first | exact Below.refl _ _ | apply Below.drew | apply bel_alloc)) (fun hHeld => ?_)
              clear hK K
              try simp only [Act.put, List.setIfInBounds_toArray, List.set_cons_zero, List.set_cons_succ]
              refine wpAnyH_ready (rs := [25]) (by kernel_rfl) (by simp) ?_
              refine AllReadyH.cons (o := ⟨_, _, _, _, _, _⟩) rfl (fun K hK => ?_) AllReadyH.nil
              go_simp
              refine hK.out _ _ (by refine keepN HL10.out z0 z1 ?_; repeat (first | exact Below.refl _ _ | apply Below.drew | apply bel_alloc)) (fun hHeld => ?_)
              clear hK K
              try simp only [Act.put, List.setIfInBounds_toArray, List.set_cons_zero, List.set_cons_succ]
              refine wpAnyH_ready (rs := [26]) (by kernel_rfl) (by simp) ?_
              refine AllReadyH.cons (o := ⟨_, _, _, _, _, _⟩) rfl (fun K hK => ?_) AllReadyH.nil
              go_simp
              refine hK.out _ _ (by refine keepN HL10.out z0 z1 ?_; repeat (first | exact Below.refl _ _ | apply Below.drew | apply bel_alloc)) (fun hHeld => ?_)
              clear hK K
              try simp only [Act.put, List.setIfInBounds_toArray, List.set_cons_zero, List.set_cons_succ]
              refine wpAnyH_ready (rs := [27]) (by kernel_rfl) (by simp) ?_
              refine AllReadyH.cons (o := ⟨_, _, _, _, _, _⟩) rfl (fun K hK => ?_) AllReadyH.nil
              go_simp
              refine hK.out _ _ (by refine keepN HL10.out z0 z1 ?_; repeat (first | exact Below.refl _ _ | apply Below.drew | apply bel_alloc)) (fun hHeld => ?_)
              clear hK K
              try simp only [Act.put, List.setIfInBounds_toArray, List.set_cons_zero, List.set_cons_succ]
              refine wpAnyH_ready (rs := [28]) (by kernel_rfl) (by simp) ?_
              refine AllReadyH.cons (o := ⟨_, _, _, _, _, _⟩) rfl (fun K hK => ?_) AllReadyH.nil
              go_simp
              refine hK.out _ _ (by refine keepN HL10.out z0 z1 ?_; repeat (first | exact Below.refl _ _ | apply Below.drew | apply bel_alloc)) (fun hHeld => ?_)
              clear hK K
              try simp only [Act.put, List.setIfInBounds_toArray, List.set_cons_zero, List.set_cons_succ]
              refine wpAnyH_done (by kernel_rfl) ?_ _
              go_wp2_with fail
              go_meet
              refine ⟨_, _, _, rfl, rfl, rfl, (tri3 V _ _ _).2.2.2, by omega, by omega, by omega, by omega, by omega, ?_, ?_, ?_⟩
              all_goals first | exact (tri3 V _ _ _).1 | exact (tri3 V _ _ _).2.1 | exact (tri3 V _ _ _).2.2.1
            case cp4953q25n25 =>
              go_simp
              refine hK.out _ _ (by refine keepN HL10.out z0 z1 ?_; repeat (first | exact Below.refl _ _ | apply Below.drew | apply bel_alloc)) (fun hHeld => ?_)
              clear hK K
              try simp only [Act.put, List.setIfInBounds_toArray, List.set_cons_zero, List.set_cons_succ]
              refine wpAnyH_ready (rs := [24]) (by kernel_rfl) (by simp) ?_
              refine AllReadyH.cons (o := ⟨_, _, _, _, _, _⟩) rfl (fun K hK => ?_) AllReadyH.nil
              go_simp
              refine hK.out _ _ (by refine keepN HL10.out z0 z1 ?_; repeat (first | exact Below.refl _ _ | apply Below.drew | apply bel_alloc)) (fun hHeld => ?_)
              clear hK K
              try simp only [Act.put, List.setIfInBounds_toArray, List.set_cons_zero, List.set_cons_succ]
              refine wpAnyH_ready (rs := [26]) (by kernel_rfl) (by simp) ?_
              refine AllReadyH.cons (o := ⟨_, _, _, _, _, _⟩) rfl (fun K hK => ?_) AllReadyH.nil
              go_simp
              refine hK.out _ _ (by refine keepN HL10.out z0 z1 ?_; repeat (first | exact Below.refl _ _ | apply Below.drew | apply bel_alloc)) (fun hHeld => ?_)
              clear hK K
              try simp only [Act.put, List.setIfInBounds_toArray, List.set_cons_zero, List.set_cons_succ]
              refine wpAnyH_ready (rs := [27]) (by kernel_rfl) (by simp) ?_
              refine AllReadyH.cons (o := ⟨_, _, _, _, _, _⟩) rfl (fun K hK => ?_) AllReadyH.nil
              go_simp
              refine hK.out _ _ (by refine keepN HL10.out z0 z1 ?_; repeat (first | exact Below.refl _ _ | apply Below.drew | apply bel_alloc)) (fun hHeld => ?_)
              clear hK K
              try simp only [Act.put, List.setIfInBounds_toArray, List.set_cons_zero, List.set_cons_succ]
              refine wpAnyH_ready (rs := [28]) (by kernel_rfl) (by simp) ?_
              refine AllReadyH.cons (o := ⟨_, _, _, _, _, _⟩) rfl (fun K hK => ?_) AllReadyH.nil
              go_simp
              refine hK.out _ _ (by refine keepN HL10.out z0 z1 ?_; repeat (first | exact Below.refl _ _ | apply Below.drew | apply bel_alloc)) (fun hHeld => ?_)
              clear hK K
              try simp only [Act.put, List.setIfInBounds_toArray, List.set_cons_zero, List.set_cons_succ]
              refine wpAnyH_done (by kernel_rfl) ?_ _
              go_wp2_with fail
              go_meet
              refine ⟨_, _, _, rfl, rfl, rfl, (tri3 V _ _ _).2.2.2, by omega, by omega, by omega, by omega, by omega, ?_, ?_, ?_⟩
              all_goals first | exact (tri3 V _ _ _).1 | exact (tri3 V _ _ _).2.1 | exact (tri3 V _ _ _).2.2.1
          case cp4953q24n24 =>
            go_simp
            refine hK.out _ _ (by refine keepN HL10.out z0 z1 ?_; repeat (first | exact Below.refl _ _ | apply Below.drew | apply bel_alloc)) (fun hHeld => ?_)
            clear hK K
            try simp only [Act.put, List.setIfInBounds_toArray, List.set_cons_zero, List.set_cons_succ]
            refine wpAnyH_ready (rs := [23, 25]) (by kernel_rfl) (by simp) ?_
            refine AllReadyH.cons (o := ⟨_, _, _, _, _, _⟩) rfl (fun K hK => ?cp4953q26n23) (AllReadyH.cons (o := ⟨_, _, _, _, _, _⟩) rfl (fun K hK => ?cp4953q26n25) AllReadyH.nil)
            case cp4953q26n23 =>
              go_simp
              refine hK.out _ _ (by refine keepN HL10.out z0 z1 ?_; repeat (first | exact Below.refl _ _ | apply Below.drew | apply bel_alloc)) (fun hHeld => ?_)
              clear hK K
              try simp only [Act.put, List.setIfInBounds_toArray, List.set_cons_zero, List.set_cons_succ]
              refine wpAnyH_ready (rs := [25]) (by kernel_rfl) (by simp) ?_
              refine AllReadyH.cons (o := ⟨_, _, _, _, _, _⟩) rfl (fun K hK => ?_) AllReadyH.nil
              go_simp
              refine hK.out _ _ (by refine keepN HL10.out z0 z1 ?_; repeat (first | exact Below.refl _ _ | apply Below.drew | apply bel_alloc)) (fun hHeld => ?_)
              clear hK K
              try simp only [Act.put, List.setIfInBounds_toArray, List.set_cons_zero, List.set_cons_succ]
              refine wpAnyH_ready (rs := [26]) (by kernel_rfl) (by simp) ?_
              refine AllReadyH.cons (o := ⟨_, _, _, _, _, _⟩) rfl (fun K hK => ?_) AllReadyH.nil
              go_simp
              refine hK.out _ _ (by refine keepN HL10.out z0 z1 ?_; repeat (first | exact Below.refl _ _ | apply Below.drew | apply bel_alloc)) (fun hHeld => ?_)
              clear hK K
              try simp only [Act.put, List.setIfInBounds_toArray, List.set_cons_zero, List.set_cons_succ]
              refine wpAnyH_ready (rs := [27]) (by kernel_rfl) (by simp) ?_
              refine AllReadyH.cons (o := ⟨_, _, _, _, _, _⟩) rfl (fun K hK => ?_) AllReadyH.nil
              go_simp
              refine hK.out _ _ (by refine keepN HL10.out z0 z1 ?_; repeat (first | exact Below.refl _ _ | apply Below.drew | apply bel_alloc)) (fun hHeld => ?_)
              clear hK K
              try simp only [Act.put, List.setIfInBounds_toArray, List.set_cons_zero, List.set_cons_succ]
              refine wpAnyH_ready (rs := [28]) (by kernel_rfl) (by simp) ?_
              refine AllReadyH.cons (o := ⟨_, _, _, _, _, _⟩) rfl (fun K hK => ?_) AllReadyH.nil
              go_simp
              refine hK.out _ _ (by refine keepN HL10.out z0 z1 ?_; repeat (first | exact Below.refl _ _ | apply Below.drew | apply bel_alloc)) (fun hHeld => ?_)
              clear hK K
              try simp only [Act.put, List.setIfInBounds_toArray, List.set_cons_zero, List.set_cons_succ]
              refine wpAnyH_done (by kernel_rfl) ?_ _
              go_wp2_with fail
              go_meet
              refine ⟨_, _, _, rfl, rfl, rfl, (tri3 V _ _ _).2.2.2, by omega, by omega, by omega, by omega, by omega, ?_, ?_, ?_⟩
              all_goals first | exact (tri3 V _ _ _).1 | exact (tri3 V _ _ _).2.1 | exact (tri3 V _ _ _).2.2.1
            case cp4953q26n25 =>
              go_simp
              refine hK.out _ _ (by refine keepN HL10.out z0 z1 ?_; repeat (first | exact Below.refl _ _ | apply Below.drew | apply bel_alloc)) (fun hHeld => ?_)
              clear hK K
              try simp only [Act.put, List.setIfInBounds_toArray, List.set_cons_zero, List.set_cons_succ]
              refine wpAnyH_ready (rs := [23]) (by kernel_rfl) (by simp) ?_
              refine AllReadyH.cons (o := ⟨_, _, _, _, _, _⟩) rfl (fun K hK => ?_) AllReadyH.nil
              go_simp
              refine hK.out _ _ (by refine keepN HL10.out z0 z1 ?_; repeat (first | exact Below.refl _ _ | apply Below.drew | apply bel_alloc)) (fun hHeld => ?_)
              clear hK K
              try simp only [Act.put, List.setIfInBounds_toArray, List.set_cons_zero, List.set_cons_succ]
              refine wpAnyH_ready (rs := [26]) (by kernel_rfl) (by simp) ?_
              refine AllReadyH.cons (o := ⟨_, _, _, _, _, _⟩) rfl (fun K hK => ?_) AllReadyH.nil
              go_simp
              refine hK.out _ _ (by refine keepN HL10.out z0 z1 ?_; repeat (first | exact Below.refl _ _ | apply Below.drew | apply bel_alloc)) (fun hHeld => ?_)
              clear hK K
              try simp only [Act.put, List.setIfInBounds_toArray, List.set_cons_zero, List.set_cons_succ]
              refine wpAnyH_ready (rs := [27]) (by kernel_rfl) (by simp) ?_
              refine AllReadyH.cons (o := ⟨_, _, _, _, _, _⟩) rfl (fun K hK => ?_) AllReadyH.nil
              go_simp
              refine hK.out _ _ (by refine keepN HL10.out z0 z1 ?_; repeat (first | exact Below.refl _ _ | apply Below.drew | apply bel_alloc)) (fun hHeld => ?_)
              clear hK K
              try simp only [Act.put, List.setIfInBounds_toArray, List.set_cons_zero, List.set_cons_succ]
              refine wpAnyH_ready (rs := [28]) (by kernel_rfl) (by simp) ?_
              refine AllReadyH.cons (o := ⟨_, _, _, _, _, _⟩) rfl (fun K hK => ?_) AllReadyH.nil
              go_simp
              refine hK.out _ _ (by refine keepN HL10.out z0 z1 ?_; repeat (first | exact Below.refl _ _ | apply Below.drew | apply bel_alloc)) (fun hHeld => ?_)
              clear hK K
              try simp only [Act.put, List.setIfInBounds_toArray, List.set_cons_zero, List.set_cons_succ]
              refine wpAnyH_done (by kernel_rfl) ?_ _
              go_wp2_with fail
              go_meet
              refine ⟨_, _, _, rfl, rfl, rfl, (tri3 V _ _ _).2.2.2, by omega, by omega, by omega, by omega, by omega, ?_, ?_, ?_⟩
              all_goals first | exact (tri3 V _ _ _).1 | exact (tri3 V _ _ _).2.1 | exact (tri3 V _ _ _).2.2.1
          case cp4953q24n25 =>
            go_simp
            refine hK.out _ _ (by refine keepN HL10.out z0 z1 ?_; repeat (first | exact Below.refl _ _ | apply Below.drew | apply bel_alloc)) (fun hHeld => ?_)
            clear hK K
            try simp only [Act.put, List.setIfInBounds_toArray, List.set_cons_zero, List.set_cons_succ]
            refine wpAnyH_ready (rs := [23, 24]) (by kernel_rfl) (by simp) ?_
            refine AllReadyH.cons (o := ⟨_, _, _, _, _, _⟩) rfl (fun K hK => ?cp4953q27n23) (AllReadyH.cons (o := ⟨_, _, _, _, _, _⟩) rfl (fun K hK => ?cp4953q27n24) AllReadyH.nil)
            case cp4953q27n23 =>
              go_simp
              refine hK.out _ _ (by refine keepN HL10.out z0 z1 ?_; repeat (first | exact Below.refl _ _ | apply Below.drew | apply bel_alloc)) (fun hHeld => ?_)
              clear hK K
              try simp only [Act.put, List.setIfInBounds_toArray, List.set_cons_zero, List.set_cons_succ]
              refine wpAnyH_ready (rs := [24]) (by kernel_rfl) (by simp) ?_
              refine AllReadyH.cons (o := ⟨_, _, _, _, _, _⟩) rfl (fun K hK => ?_) AllReadyH.nil
              go_simp
              refine hK.out _ _ (by refine keepN HL10.out z0 z1 ?_; repeat (first | exact Below.refl _ _ | apply Below.drew | apply bel_alloc)) (fun hHeld => ?_)
              clear hK K
              try simp only [Act.put, List.setIfInBounds_toArray, List.set_cons_zero, List.set_cons_succ]
              refine wpAnyH_ready (rs := [26]) (by kernel_rfl) (by simp) ?_
              refine AllReadyH.cons (o := ⟨_, _, _, _, _, _⟩) rfl (fun K hK => ?_) AllReadyH.nil
              go_simp
              refine hK.out _ _ (by refine keepN HL10.out z0 z1 ?_; repeat (first | exact Below.refl _ _ | apply Below.drew | apply bel_alloc)) (fun hHeld => ?_)
              clear hK K
              try simp only [Act.put, List.setIfInBounds_toArray, List.set_cons_zero, List.set_cons_succ]
              refine wpAnyH_ready (rs := [27]) (by kernel_rfl) (by simp) ?_
              refine AllReadyH.cons (o := ⟨_, _, _, _, _, _⟩) rfl (fun K hK => ?_) AllReadyH.nil
              go_simp
              refine hK.out _ _ (by refine keepN HL10.out z0 z1 ?_; repeat (first | exact Below.refl _ _ | apply Below.drew | apply bel_alloc)) (fun hHeld => ?_)
              clear hK K
              try simp only [Act.put, List.setIfInBounds_toArray, List.set_cons_zero, List.set_cons_succ]
              refine wpAnyH_ready (rs := [28]) (by kernel_rfl) (by simp) ?_
              refine AllReadyH.cons (o := ⟨_, _, _, _, _, _⟩) rfl (fun K hK => ?_) AllReadyH.nil
              go_simp
              refine hK.out _ _ (by refine keepN HL10.out z0 z1 ?_; repeat (first | exact Below.refl _ _ | apply Below.drew | apply bel_alloc)) (fun hHeld => ?_)
              clear hK K
              try simp only [Act.put, List.setIfInBounds_toArray, List.set_cons_zero, List.set_cons_succ]
              refine wpAnyH_done (by kernel_rfl) ?_ _
              go_wp2_with fail
              go_meet
              refine ⟨_, _, _, rfl, rfl, rfl, (tri3 V _ _ _).2.2.2, by omega, by omega, by omega, by omega, by omega, ?_, ?_, ?_⟩
              all_goals first | exact (tri3 V _ _ _).1 | exact (tri3 V _ _ _).2.1 | exact (tri3 V _ _ _).2.2.1
            case cp4953q27n24 =>
              go_simp
              refine hK.out _ _ (by refine keepN HL10.out z0 z1 ?_; repeat (first | exact Below.refl _ _ | apply Below.drew | apply bel_alloc)) (fun hHeld => ?_)
              clear hK K
              try simp only [Act.put, List.setIfInBounds_toArray, List.set_cons_zero, List.set_cons_succ]
              refine wpAnyH_ready (rs := [23]) (by kernel_rfl) (by simp) ?_
              refine AllReadyH.cons (o := ⟨_, _, _, _, _, _⟩) rfl (fun K hK => ?_) AllReadyH.nil
              go_simp
              refine hK.out _ _ (by refine keepN HL10.out z0 z1 ?_; repeat (first | exact Below.refl _ _ | apply Below.drew | apply bel_alloc)) (fun hHeld => ?_)
              clear hK K
              try simp only [Act.put, List.setIfInBounds_toArray, List.set_cons_zero, List.set_cons_succ]
              refine wpAnyH_ready (rs := [26]) (by kernel_rfl) (by simp) ?_
              refine AllReadyH.cons (o := ⟨_, _, _, _, _, _⟩) rfl (fun K hK => ?_) AllReadyH.nil
              go_simp
              refine hK.out _ _ (by refine keepN HL10.out z0 z1 ?_; repeat (first | exact Below.refl _ _ | apply Below.drew | apply bel_alloc)) (fun hHeld => ?_)
              clear hK K
              try simp only [Act.put, List.setIfInBounds_toArray, List.set_cons_zero, List.set_cons_succ]
              refine wpAnyH_ready (rs := [27]) (by kernel_rfl) (by simp) ?_
              refine AllReadyH.cons (o := ⟨_, _, _, _, _, _⟩) rfl (fun K hK => ?_) AllReadyH.nil
              go_simp
              refine hK.out _ _ (by refine keepN HL10.out z0 z1 ?_; repeat (first | exact Below.refl _ _ | apply Below.drew | apply bel_alloc)) (fun hHeld => ?_)
              clear hK K
              try simp only [Act.put, List.setIfInBounds_toArray, List.set_cons_zero, List.set_cons_succ]
              refine wpAnyH_ready (rs := [28]) (by kernel_rfl) (by simp) ?_
              refine AllReadyH.cons (o := ⟨_, _, _, _, _, _⟩) rfl (fun K hK => ?_) AllReadyH.nil
              go_simp
              refine hK.out _ _ (by refine keepN HL10.out z0 z1 ?_; repeat (first | exact Below.refl _ _ | apply Below.drew | apply bel_alloc)) (fun hHeld => ?_)
              clear hK K
              try simp only [Act.put, List.setIfInBounds_toArray, List.set_cons_zero, List.set_cons_succ]
              refine wpAnyH_done (by kernel_rfl) ?_ _
              go_wp2_with fail
              go_meet
              refine ⟨_, _, _, rfl, rfl, rfl, (tri3 V _ _ _).2.2.2, by omega, by omega, by omega, by omega, by omega, ?_, ?_, ?_⟩
              all_goals first | exact (tri3 V _ _ _).1 | exact (tri3 V _ _ _).2.1 | exact (tri3 V _ _ _).2.2.1
        case rest =>
          obtain ⟨n11, n12, n13, rfl, rfl, rfl, H3⟩ := hcut
          have HK7 := Lib.hid (HK6.out.below H3.out.b)
          have HA7 := Lib.hid (HA6.out.below H3.out.b)
          have HKV7 := Lib.hid (blk_below HKV.out H3.out.b)
          have HN6 : Hid (∀ g, u.ownBlock = some g → g < V.heap.size) := fun g hg => (HA6.out.1.lt g hg).2
          have HW6 : Hid (w.heap.size ≤ V.heap.size ∧ ad.block < V.heap.size ∧ n10 < V.heap.size) := ⟨HA6.out.2.1.size, HAD.out, HL10.out⟩
          obtain ⟨z0, z1, z2⟩ := tri_cells HKV7.out
          clear HK6 HA6 HKV v1 v2 v3
          cases e
          · have hXY : 2 * a + 1 = X ∧ 2 * b = Y := by have := HXY.out; simp [lkC] at this; exact this
            have hPP : 2 * a + 2 = PX ∧ 2 * b = PY := ⟨by have := HPX.out; simpa using this, by have := HPY.out; simpa using this⟩
            have HC1 := Lib.hid H3.out.k1
            have HC2 := Lib.hid H3.out.k2
            have HC3 := Lib.hid H3.out.k3
            rw [hXY.1, hXY.2] at HC1
            rw [hPP.1, hPP.2] at HC3
            clear hXY hPP v4 v5 v6
            go_upto_region 10 with (fail)
            generalize wc = V7 at *
            have hc0 : V7.cell? ⟨n11, 0, none⟩ = some (.int .i64 X) := by rw [blk_cell HC1.out]; rfl
            have hc1 : V7.cell? ⟨n11, 1, none⟩ = some (.int .i64 Y) := by rw [blk_cell HC1.out]; rfl
            have hc2 : V7.cell? ⟨n12, 0, none⟩ = some (.int .i64 (2 * a)) := by rw [blk_cell HC2.out]; rfl
            have hc3 : V7.cell? ⟨n12, 1, none⟩ = some (.int .i64 (2 * b)) := by rw [blk_cell HC2.out]; rfl
            clear z0 z1 z2
            obtain ⟨q1, q2, q3, HQ⟩ : ∃ q1 q2 q3, Hid (lkA (a, b, false) = (q1, q2, q3)) := ⟨_, _, _, rfl⟩
            obtain ⟨r1, r2, r3, HR⟩ : ∃ q1 q2 q3, Hid (lkB (a, b, false) = (q1, q2, q3)) := ⟨_, _, _, rfl⟩
            rw [HQ.out, HR.out] at HOV HIK
            go_wp2_with fail
            refine (DominoOver_yes _ _ _ _ HN1.out _).mono ?_
            rintro e8 w8 ⟨rfl, hb8⟩
            rw [HOV.out.1]
            have HK8 := Lib.hid (HK7.out.below hb8)
            have HA8 := Lib.hid (HA7.out.below hb8)
            have HKV8 := Lib.hid (blk_below HKV7.out hb8)
            have HC18 := Lib.hid (blk_below HC1.out hb8)
            have HC38 := Lib.hid (blk_below HC3.out hb8)
            clear hb8 hc0 hc1 hc2 hc3
            go_upto_region 11 with (fail)
            obtain ⟨V9, hV9, k9, b9⟩ := one_alloc w8 (triO q1 q2 q3 46)
            rw [← hV9]
            obtain ⟨n14, hn14⟩ : ∃ n14, w8.heap.size = n14 := ⟨_, rfl⟩
            have HK9 := Lib.hid (HK8.out.below b9)
            have HA9 := Lib.hid (HA8.out.below b9)
            have HKV9 := Lib.hid (blk_below HKV8.out b9)
            have HC19 := Lib.hid (blk_below HC18.out b9)
            have HC39 := Lib.hid (blk_below HC38.out b9)
            rw [hn14] at k9 ⊢
            have HT9 := Lib.hid k9
            have hc0 : V9.cell? ⟨n11, 0, none⟩ = some (.int .i64 X) := by rw [blk_cell HC19.out]; rfl
            have hc1 : V9.cell? ⟨n11, 1, none⟩ = some (.int .i64 Y) := by rw [blk_cell HC19.out]; rfl
            have hc2 : V9.cell? ⟨n13, 0, none⟩ = some (.int .i64 PX) := by rw [blk_cell HC39.out]; rfl
            have hc3 : V9.cell? ⟨n13, 1, none⟩ = some (.int .i64 PY) := by rw [blk_cell HC39.out]; rfl
            clear hV9 k9 b9 hn14 HK8 HA8 HKV8 HC18 HC38
            go_wp2_with fail
            refine (DominoOver_yes _ _ _ _ HN2.out _).mono ?_
            rintro e10 w10 ⟨rfl, hb10⟩
            rw [HOV.out.2]
            have HK10 := Lib.hid (HK9.out.below hb10)
            have HA10 := Lib.hid (HA9.out.below hb10)
            have HKV10 := Lib.hid (blk_below HKV9.out hb10)
            have HT10 := Lib.hid (blk_below HT9.out hb10)
            clear hb10 hc0 hc1 hc2 hc3 HK9 HA9 HKV9 HC19 HC39 HT9
            go_upto_region 12 with (fail)
            obtain ⟨V11, hV11, k11, b11⟩ := one_alloc w10 (triO r1 r2 r3 46)
            rw [← hV11]
            obtain ⟨n16, hn16⟩ : ∃ n16, w10.heap.size = n16 := ⟨_, rfl⟩
            have HK11 := Lib.hid (HK10.out.below b11)
            have HA11 := Lib.hid (HA10.out.below b11)
            have HKV11 := Lib.hid (blk_below HKV10.out b11)
            have HT11 := Lib.hid (blk_below HT10.out b11)
            rw [hn16] at k11 ⊢
            have HU11 := Lib.hid k11
            obtain ⟨s0, s1, s2⟩ := tri_cells HT11.out
            clear hV11 k11 b11 hn16 HK10 HA10 HKV10 HT10
            go_wp2_with fail
            refine (hasDomino_any _ L q1 q2 q3 B _ (HV.out.below (HA11.out.2.1.mono hB)) (Nat.le_trans hB HA11.out.2.1.size)).mono ?_
            rintro e12 w12 ⟨rfl, hb12⟩
            have HK12 := Lib.hid (HK11.out.below hb12)
            have HA12 := Lib.hid (HA11.out.below hb12)
            have HKV12 := Lib.hid (blk_below HKV11.out hb12)
            have HU12 := Lib.hid (blk_below HU11.out hb12)
            obtain ⟨s3, s4, s5⟩ := tri_cells HU12.out
            clear s0 s1 s2 hb12 HK11 HA11 HKV11 HU11
            generalize hasL L (q1, q2, q3) = o1 at *
            cases o1
            · go_wp2_with fail
              refine (hasDomino_any _ L r1 r2 r3 B _ (HV.out.below (HA12.out.2.1.mono hB)) (Nat.le_trans hB HA12.out.2.1.size)).mono ?_
              rintro e14 w14 ⟨rfl, hb14⟩
              have HK14 := Lib.hid (HK12.out.below hb14)
              have HA14 := Lib.hid (HA12.out.below hb14)
              have HKV14 := Lib.hid (blk_below HKV12.out hb14)
              clear hb14 s3 s4 s5 HK12 HA12 HKV12 HU12
              generalize hasL L (r1, r2, r3) = o2 at *
              cases o2
              · have HF2 : Hid ((all.take (k + 1)).filter pT = (all.take k).filter pT) := by unfold Hid; rw [HFT.out, HIK.out]; simp
                go_wp2_with fail
                go_roundw
                case rel => exact ⟨k + 1, _, rfl, by omega, by go_num, HK14, by rw [HF2.out]; exact HA14⟩
                case measure => simp [intOf]; omega
              · have HF2 : Hid ((all.take (k + 1)).filter pT = (all.take k).filter pT ++ [(a, b, false)]) := by unfold Hid; rw [HFT.out, HIK.out]; simp
                have hl9 : ((all.take k).filter pT).length + 1 ≤ 1073741824 := by have := List.length_filter_le pT (all.take k); rw [List.length_take] at this; omega
                obtain ⟨s6, s7, s8⟩ := tri_cells HKV14.out
                go_wp2_with (at_builtin; refine wpList_push okLink rfl _ _ rfl HA14.out rfl (a, b, false) _ rfl _ rfl rfl hl9 ?_; intro v15 w15 HA15 HG15)
                have HK15 := Lib.hid (HK14.out.grew HG15.out)
                go_roundw
                case rel => exact ⟨k + 1, _, rfl, by omega, by go_num, HK15, by rw [HF2.out]; exact HA15⟩
                case measure => simp [intOf]; omega
            · have HF2 : Hid ((all.take (k + 1)).filter pT = (all.take k).filter pT ++ [(a, b, false)]) := by unfold Hid; rw [HFT.out, HIK.out]; simp
              have hl9 : ((all.take k).filter pT).length + 1 ≤ 1073741824 := by have := List.length_filter_le pT (all.take k); rw [List.length_take] at this; omega
              obtain ⟨s6, s7, s8⟩ := tri_cells HKV12.out
              go_wp2_with (at_builtin; refine wpList_push okLink rfl _ _ rfl HA12.out rfl (a, b, false) _ rfl _ rfl rfl hl9 ?_; intro v15 w15 HA15 HG15)
              have HK15 := Lib.hid (HK12.out.grew HG15.out)
              go_roundw
              case rel => exact ⟨k + 1, _, rfl, by omega, by go_num, HK15, by rw [HF2.out]; exact HA15⟩
              case measure => simp [intOf]; omega
          · have hXY : Hid (2 * a = X ∧ 2 * b + 1 = Y) := by have := HXY.out; simp [lkC] at this; exact this
            have hPP : Hid (2 * a = PX ∧ 2 * b + 2 = PY) := ⟨by have := HPX.out; simpa using this, by have := HPY.out; simpa using this⟩
            have v1 : IntKind.i64.wrap (2 * a) = 2 * a := IntWalk.i64_in _ (by omega)
            have v3 : IntKind.i64.wrap (2 * b) = 2 * b := IntWalk.i64_in _ (by omega)
            have c4 : ∀ o, wc.frozen? ⟨n11, o, none⟩ = false := fun o => blk_free H3.out.k1
            have c5 : ∀ o, wc.frozen? ⟨n13, o, none⟩ = false := fun o => blk_free H3.out.k3
            have c6 : wc.cell? ⟨n11, 0, none⟩ = some (.int .i64 (2 * a + 1)) := by rw [blk_cell H3.out.k1]; rfl
            have c7 : wc.cell? ⟨n11, 1, none⟩ = some (.int .i64 (2 * b)) := by rw [blk_cell H3.out.k1]; rfl
            have c8 : wc.cell? ⟨n13, 0, none⟩ = some (.int .i64 (2 * a + 2)) := by rw [blk_cell H3.out.k3]; rfl
            have c9 : wc.cell? ⟨n13, 1, none⟩ = some (.int .i64 (2 * b)) := by rw [blk_cell H3.out.k3]; rfl
            have hnA : n10 ≠ n11 := by have := HW6.out.2.2; have := H3.out.l1; omega
            have hnB : n10 ≠ n13 := by have := HW6.out.2.2; have := H3.out.l3; omega
            have hnC : n11 ≠ n13 := H3.out.ne13
            have HHA := Lib.hid hnA; have HHB := Lib.hid hnB
            clear hnA hnB
            have hsA0 : ∀ (w : World) (k : Nat) (u : Value), (w.setCell ⟨n11, k, none⟩ u).cell? ⟨n10, 0, none⟩ = w.cell? ⟨n10, 0, none⟩ := fun w k u => setO HHA.out
            have hsA1 : ∀ (w : World) (k : Nat) (u : Value), (w.setCell ⟨n11, k, none⟩ u).cell? ⟨n10, 1, none⟩ = w.cell? ⟨n10, 1, none⟩ := fun w k u => setO HHA.out
            have hsB0 : ∀ (w : World) (k : Nat) (u : Value), (w.setCell ⟨n13, k, none⟩ u).cell? ⟨n10, 0, none⟩ = w.cell? ⟨n10, 0, none⟩ := fun w k u => setO HHB.out
            have hsB1 : ∀ (w : World) (k : Nat) (u : Value), (w.setCell ⟨n13, k, none⟩ u).cell? ⟨n10, 1, none⟩ = w.cell? ⟨n10, 1, none⟩ := fun w k u => setO HHB.out
            go_upto_region 9 with (fail)
            refine wp_region_held_drew (S := fun w' => wc.heap.size ≤ w'.heap.size ∧ w'.cell? ⟨n10, 0, none⟩ = some (.int .i64 a) ∧ w'.cell? ⟨n10, 1, none⟩ = some (.int .i64 b)) (by kernel_rfl) (by exact ⟨Nat.le_refl _, z0, z1⟩) (fun hHeld => ?_)
            refine wpAnyH_take (i := 0) (oi := ⟨_, _, _, _, _, _⟩) (v := ?vap4954q1n0) rfl (by kernel_rfl) (by kernel_rfl) (by kernel_rfl) (fun _ _ _ h => h) (Or.inl ⟨by rfl, ?hap4954q1n0⟩) (by assumption) ?_
            case hap4954q1n0 => (intro w hSw; (try dsimp only at hSw); go_simp; try with_reducible rfl)
            try simp only [Act.put, List.setIfInBounds_toArray, List.set_cons_zero, List.set_cons_succ]
            refine wpAnyH_take (i := 1) (oi := ⟨_, _, _, _, _, _⟩) (v := ?vap4954q2n1) rfl (by kernel_rfl) (by kernel_rfl) (by kernel_rfl) (fun _ _ _ h => h) (Or.inl ⟨by rfl, ?hap4954q2n1⟩) (by assumption) ?_
            case hap4954q2n1 => (intro w hSw; (try dsimp only at hSw); go_simp; try with_reducible rfl)
            try simp only [Act.put, List.setIfInBounds_toArray, List.set_cons_zero, List.set_cons_succ]
            refine wpAnyH_take (i := 2) (oi := ⟨_, _, _, _, _, _⟩) (v := ?vap4954q3n2) rfl (by kernel_rfl) (by kernel_rfl) (by kernel_rfl) (fun _ _ _ h => h) (Or.inl ⟨by rfl, ?hap4954q3n2⟩) (by assumption) ?_
            case hap4954q3n2 => (intro w hSw; (try dsimp only at hSw); go_simp; try with_reducible rfl)
            try simp only [Act.put, List.setIfInBounds_toArray, List.set_cons_zero, List.set_cons_succ]
            refine wpAnyH_take (i := 3) (oi := ⟨_, _, _, _, _, _⟩) (v := ?vap4954q4n3) rfl (by kernel_rfl) (by kernel_rfl) (by kernel_rfl) (fun _ _ _ h => h) (Or.inl ⟨by rfl, ?hap4954q4n3⟩) (by assumption) ?_
            case hap4954q4n3 => (intro w hSw; (try dsimp only at hSw); go_simp; try with_reducible rfl)
            try simp only [Act.put, List.setIfInBounds_toArray, List.set_cons_zero, List.set_cons_succ]
            refine wpAnyH_take (i := 4) (oi := ⟨_, _, _, _, _, _⟩) (v := ?vap4954q5n4) rfl (by kernel_rfl) (by kernel_rfl) (by kernel_rfl) (fun _ _ _ h => h) (Or.inl ⟨by rfl, ?hap4954q5n4⟩) (by assumption) ?_
            case hap4954q5n4 => (intro w hSw; (try dsimp only at hSw); go_simp; try with_reducible rfl)
            try simp only [Act.put, List.setIfInBounds_toArray, List.set_cons_zero, List.set_cons_succ]
            refine wpAnyH_take (i := 5) (oi := ⟨_, _, _, _, _, _⟩) (v := ?vap4954q6n5) rfl (by kernel_rfl) (by kernel_rfl) (by kernel_rfl) (fun _ _ _ h => h) (Or.inl ⟨by rfl, ?hap4954q6n5⟩) (by assumption) ?_
            case hap4954q6n5 => (intro w hSw; (try dsimp only at hSw); go_simp; try with_reducible rfl)
            try simp only [Act.put, List.setIfInBounds_toArray, List.set_cons_zero, List.set_cons_succ]
            refine wpAnyH_take (i := 6) (oi := ⟨_, _, _, _, _, _⟩) (v := ?vap4954q7n6) rfl (by kernel_rfl) (by kernel_rfl) (by kernel_rfl) (fun _ _ _ h => h) (Or.inl ⟨by rfl, ?hap4954q7n6⟩) (by assumption) ?_
            case hap4954q7n6 => (intro w hSw; (try dsimp only at hSw); go_simp; try with_reducible rfl)
            try simp only [Act.put, List.setIfInBounds_toArray, List.set_cons_zero, List.set_cons_succ]
            refine wpAnyH_take (i := 7) (oi := ⟨_, _, _, _, _, _⟩) (v := ?vap4954q8n7) rfl (by kernel_rfl) (by kernel_rfl) (by kernel_rfl) (fun _ _ _ h => h) (Or.inl ⟨by rfl, ?hap4954q8n7⟩) (by assumption) ?_
            case hap4954q8n7 => (intro w hSw; (try dsimp only at hSw); go_simp; try with_reducible rfl)
            try simp only [Act.put, List.setIfInBounds_toArray, List.set_cons_zero, List.set_cons_succ]
            refine wpAnyH_take (i := 8) (oi := ⟨_, _, _, _, _, _⟩) (v := ?vap4954q9n8) rfl (by kernel_rfl) (by kernel_rfl) (by kernel_rfl) (fun _ _ _ h => h) (Or.inl ⟨by rfl, ?hap4954q9n8⟩) (by assumption) ?_
            case hap4954q9n8 => (intro w hSw; (try dsimp only at hSw); go_simp; try with_reducible rfl)
            try simp only [Act.put, List.setIfInBounds_toArray, List.set_cons_zero, List.set_cons_succ]
            refine wpAnyH_take (i := 9) (oi := ⟨_, _, _, _, _, _⟩) (v := ?vap4954q10n9) rfl (by kernel_rfl) (by kernel_rfl) (by kernel_rfl) (fun _ _ _ h => h) (Or.inl ⟨by rfl, ?hap4954q10n9⟩) (by assumption) ?_
            case hap4954q10n9 => (intro w hSw; (try dsimp only at hSw); go_simp; try with_reducible rfl)
            try simp only [Act.put, List.setIfInBounds_toArray, List.set_cons_zero, List.set_cons_succ]
            refine wpAnyH_take (i := 10) (oi := ⟨_, _, _, _, _, _⟩) (v := ?vap4954q11n10) rfl (by kernel_rfl) (by kernel_rfl) (by kernel_rfl) (fun _ _ _ h => h) (Or.inl ⟨by rfl, ?hap4954q11n10⟩) (by assumption) ?_
            case hap4954q11n10 => (intro w hSw; (try dsimp only at hSw); go_simp; try with_reducible rfl)
            try simp only [Act.put, List.setIfInBounds_toArray, List.set_cons_zero, List.set_cons_succ]
            refine wpAnyH_take (i := 11) (oi := ⟨_, _, _, _, _, _⟩) (v := ?vap4954q12n11) rfl (by kernel_rfl) (by kernel_rfl) (by kernel_rfl) (fun _ _ _ h => h) (Or.inl ⟨by rfl, ?hap4954q12n11⟩) (by assumption) ?_
            case hap4954q12n11 => (intro w hSw; (try dsimp only at hSw); go_simp; try with_reducible rfl)
            try simp only [Act.put, List.setIfInBounds_toArray, List.set_cons_zero, List.set_cons_succ]
            refine wpAnyH_take (i := 12) (oi := ⟨_, _, _, _, _, _⟩) (v := ?vap4954q13n12) rfl (by kernel_rfl) (by kernel_rfl) (by kernel_rfl) (fun _ _ _ h => h) (Or.inl ⟨by rfl, ?hap4954q13n12⟩) (by assumption) ?_
            case hap4954q13n12 => (intro w hSw; (try dsimp only at hSw); go_simp; try with_reducible rfl)
            try simp only [Act.put, List.setIfInBounds_toArray, List.set_cons_zero, List.set_cons_succ]
            refine wpAnyH_take (i := 13) (oi := ⟨_, _, _, _, _, _⟩) (v := ?vap4954q14n13) rfl (by kernel_rfl) (by kernel_rfl) (by kernel_rfl) (fun _ _ _ h => h) (Or.inl ⟨by rfl, ?hap4954q14n13⟩) (by assumption) ?_
            case hap4954q14n13 => (intro w hSw; (try dsimp only at hSw); go_simp; try with_reducible rfl)
            try simp only [Act.put, List.setIfInBounds_toArray, List.set_cons_zero, List.set_cons_succ]
            refine wpAnyH_take (i := 14) (oi := ⟨_, _, _, _, _, _⟩) (v := ?vap4954q15n14) rfl (by kernel_rfl) (by kernel_rfl) (by kernel_rfl) (fun _ _ _ h => h) (Or.inl ⟨by rfl, ?hap4954q15n14⟩) (by assumption) ?_
            case hap4954q15n14 => (intro w hSw; (try dsimp only at hSw); go_simp; try with_reducible rfl)
            try simp only [Act.put, List.setIfInBounds_toArray, List.set_cons_zero, List.set_cons_succ]
            refine wpAnyH_take (i := 15) (oi := ⟨_, _, _, _, _, _⟩) (v := ?vap4954q16n15) rfl (by kernel_rfl) (by kernel_rfl) (by kernel_rfl) (fun _ _ _ h => h) (Or.inl ⟨by rfl, ?hap4954q16n15⟩) (by assumption) ?_
            case hap4954q16n15 => (intro w hSw; (try dsimp only at hSw); go_simp; try with_reducible rfl)
            try simp only [Act.put, List.setIfInBounds_toArray, List.set_cons_zero, List.set_cons_succ]
            refine wpAnyH_ready (rs := [16]) (by kernel_rfl) (by simp) ?_
            refine AllReadyH.cons (o := ⟨_, _, _, _, _, _⟩) rfl (fun K hK => ?_) AllReadyH.nil
            go_simp
            refine hK.out _ _ (by refine ⟨by simp, ?_, ?_⟩; all_goals ((repeat (first | rw [drewC] | rw [hsA0] | rw [hsA1] | rw [hsB0] | rw [hsB1])); assumption)) (fun hHeld => ?_)
            clear hK K
            try simp only [Act.put, List.setIfInBounds_toArray, List.set_cons_zero, List.set_cons_succ]
            refine wpAnyH_ready (rs := [17]) (by kernel_rfl) (by simp) ?_
            refine AllReadyH.cons (o := ⟨_, _, _, _, _, _⟩) rfl (fun K hK => ?_) AllReadyH.nil
            go_simp
            refine hK.out _ _ (by refine ⟨by simp, ?_, ?_⟩; all_goals ((repeat (first | rw [drewC] | rw [hsA0] | rw [hsA1] | rw [hsB0] | rw [hsB1])); assumption)) (fun hHeld => ?_)
            clear hK K
            try simp only [Act.put, List.setIfInBounds_toArray, List.set_cons_zero, List.set_cons_succ]
            refine wpAnyH_done (by kernel_rfl) ?_ _
            go_upto_region 10 with (fail)
            have HS1 := Lib.hid (set2_bare (x := 2 * a) (y := 2 * b + 1) H3.out.k1)
            generalize (wc.setCell ⟨n11, 0, none⟩ (.int .i64 (2 * a))).setCell ⟨n11, 1, none⟩ (.int .i64 (2 * b + 1)) = W1 at *
            have HS2 := Lib.hid (set2_of (x := 2 * a) (y := 2 * b + 2) ((HS1.out.old n13 (fun q => H3.out.ne13 q.symm)).trans H3.out.k3))
            generalize ((W1.setCell ⟨n13, 0, none⟩ (.int .i64 (2 * a))).setCell ⟨n13, 1, none⟩ (.int .i64 (2 * b + 2))).drew = V7 at *
            have HC1 := Lib.hid ((HS2.out.old n11 H3.out.ne13).trans HS1.out.new)
            have HC2 := Lib.hid ((HS2.out.old n12 H3.out.ne23).trans ((HS1.out.old n12 (fun q => H3.out.ne12 q.symm)).trans H3.out.k2))
            have HC3 := Lib.hid HS2.out.new
            rw [hXY.out.1, hXY.out.2] at HC1
            rw [hPP.out.1, hPP.out.2] at HC3
            have HK7 := Lib.hid (HS2.out.keepT (HS1.out.keepT HK7.out (fun p e => by obtain rfl := Option.some.inj e; have := HW6.out.2.1; have := H3.out.l1; omega)) (fun p e => by obtain rfl := Option.some.inj e; have := HW6.out.2.1; have := H3.out.l3; omega))
            have HA7 := Lib.hid (HS2.out.acc (HS1.out.acc HA7.out (fun g hg => by have := HN6.out g hg; have := H3.out.l1; omega) (by have := HW6.out.1; have := H3.out.l1; omega)) (fun g hg => by have := HN6.out g hg; have := H3.out.l3; omega) (by have := HW6.out.1; have := H3.out.l3; omega))
            have HKV7 := Lib.hid ((HS2.out.old n10 HHB.out).trans ((HS1.out.old n10 HHA.out).trans HKV7.out))
            clear HS1 HS2 c4 c5 c6 c7 c8 c9 v1 v3 v4 v5 v6 hXY hPP hnC hsA0 hsA1 hsB0 hsB1
            have hc0 : V7.cell? ⟨n11, 0, none⟩ = some (.int .i64 X) := by rw [blk_cell HC1.out]; rfl
            have hc1 : V7.cell? ⟨n11, 1, none⟩ = some (.int .i64 Y) := by rw [blk_cell HC1.out]; rfl
            have hc2 : V7.cell? ⟨n12, 0, none⟩ = some (.int .i64 (2 * a)) := by rw [blk_cell HC2.out]; rfl
            have hc3 : V7.cell? ⟨n12, 1, none⟩ = some (.int .i64 (2 * b)) := by rw [blk_cell HC2.out]; rfl
            clear z0 z1 z2
            obtain ⟨q1, q2, q3, HQ⟩ : ∃ q1 q2 q3, Hid (lkA (a, b, true) = (q1, q2, q3)) := ⟨_, _, _, rfl⟩
            obtain ⟨r1, r2, r3, HR⟩ : ∃ q1 q2 q3, Hid (lkB (a, b, true) = (q1, q2, q3)) := ⟨_, _, _, rfl⟩
            rw [HQ.out, HR.out] at HOV HIK
            go_wp2_with fail
            refine (DominoOver_yes _ _ _ _ HN1.out _).mono ?_
            rintro e8 w8 ⟨rfl, hb8⟩
            rw [HOV.out.1]
            have HK8 := Lib.hid (HK7.out.below hb8)
            have HA8 := Lib.hid (HA7.out.below hb8)
            have HKV8 := Lib.hid (blk_below HKV7.out hb8)
            have HC18 := Lib.hid (blk_below HC1.out hb8)
            have HC38 := Lib.hid (blk_below HC3.out hb8)
            clear hb8 hc0 hc1 hc2 hc3
            go_upto_region 11 with (fail)
            obtain ⟨V9, hV9, k9, b9⟩ := one_alloc w8 (triO q1 q2 q3 46)
            rw [← hV9]
            obtain ⟨n14, hn14⟩ : ∃ n14, w8.heap.size = n14 := ⟨_, rfl⟩
            have HK9 := Lib.hid (HK8.out.below b9)
            have HA9 := Lib.hid (HA8.out.below b9)
            have HKV9 := Lib.hid (blk_below HKV8.out b9)
            have HC19 := Lib.hid (blk_below HC18.out b9)
            have HC39 := Lib.hid (blk_below HC38.out b9)
            rw [hn14] at k9 ⊢
            have HT9 := Lib.hid k9
            have hc0 : V9.cell? ⟨n11, 0, none⟩ = some (.int .i64 X) := by rw [blk_cell HC19.out]; rfl
            have hc1 : V9.cell? ⟨n11, 1, none⟩ = some (.int .i64 Y) := by rw [blk_cell HC19.out]; rfl
            have hc2 : V9.cell? ⟨n13, 0, none⟩ = some (.int .i64 PX) := by rw [blk_cell HC39.out]; rfl
            have hc3 : V9.cell? ⟨n13, 1, none⟩ = some (.int .i64 PY) := by rw [blk_cell HC39.out]; rfl
            clear hV9 k9 b9 hn14 HK8 HA8 HKV8 HC18 HC38
            go_wp2_with fail
            refine (DominoOver_yes _ _ _ _ HN2.out _).mono ?_
            rintro e10 w10 ⟨rfl, hb10⟩
            rw [HOV.out.2]
            have HK10 := Lib.hid (HK9.out.below hb10)
            have HA10 := Lib.hid (HA9.out.below hb10)
            have HKV10 := Lib.hid (blk_below HKV9.out hb10)
            have HT10 := Lib.hid (blk_below HT9.out hb10)
            clear hb10 hc0 hc1 hc2 hc3 HK9 HA9 HKV9 HC19 HC39 HT9
            go_upto_region 12 with (fail)
            obtain ⟨V11, hV11, k11, b11⟩ := one_alloc w10 (triO r1 r2 r3 46)
            rw [← hV11]
            obtain ⟨n16, hn16⟩ : ∃ n16, w10.heap.size = n16 := ⟨_, rfl⟩
            have HK11 := Lib.hid (HK10.out.below b11)
            have HA11 := Lib.hid (HA10.out.below b11)
            have HKV11 := Lib.hid (blk_below HKV10.out b11)
            have HT11 := Lib.hid (blk_below HT10.out b11)
            rw [hn16] at k11 ⊢
            have HU11 := Lib.hid k11
            obtain ⟨s0, s1, s2⟩ := tri_cells HT11.out
            clear hV11 k11 b11 hn16 HK10 HA10 HKV10 HT10
            go_wp2_with fail
            refine (hasDomino_any _ L q1 q2 q3 B _ (HV.out.below (HA11.out.2.1.mono hB)) (Nat.le_trans hB HA11.out.2.1.size)).mono ?_
            rintro e12 w12 ⟨rfl, hb12⟩
            have HK12 := Lib.hid (HK11.out.below hb12)
            have HA12 := Lib.hid (HA11.out.below hb12)
            have HKV12 := Lib.hid (blk_below HKV11.out hb12)
            have HU12 := Lib.hid (blk_below HU11.out hb12)
            obtain ⟨s3, s4, s5⟩ := tri_cells HU12.out
            clear s0 s1 s2 hb12 HK11 HA11 HKV11 HU11
            generalize hasL L (q1, q2, q3) = o1 at *
            cases o1
            · go_wp2_with fail
              refine (hasDomino_any _ L r1 r2 r3 B _ (HV.out.below (HA12.out.2.1.mono hB)) (Nat.le_trans hB HA12.out.2.1.size)).mono ?_
              rintro e14 w14 ⟨rfl, hb14⟩
              have HK14 := Lib.hid (HK12.out.below hb14)
              have HA14 := Lib.hid (HA12.out.below hb14)
              have HKV14 := Lib.hid (blk_below HKV12.out hb14)
              clear hb14 s3 s4 s5 HK12 HA12 HKV12 HU12
              generalize hasL L (r1, r2, r3) = o2 at *
              cases o2
              · have HF2 : Hid ((all.take (k + 1)).filter pT = (all.take k).filter pT) := by unfold Hid; rw [HFT.out, HIK.out]; simp
                go_wp2_with fail
                go_roundw
                case rel => exact ⟨k + 1, _, rfl, by omega, by go_num, HK14, by rw [HF2.out]; exact HA14⟩
                case measure => simp [intOf]; omega
              · have HF2 : Hid ((all.take (k + 1)).filter pT = (all.take k).filter pT ++ [(a, b, true)]) := by unfold Hid; rw [HFT.out, HIK.out]; simp
                have hl9 : ((all.take k).filter pT).length + 1 ≤ 1073741824 := by have := List.length_filter_le pT (all.take k); rw [List.length_take] at this; omega
                obtain ⟨s6, s7, s8⟩ := tri_cells HKV14.out
                go_wp2_with (at_builtin; refine wpList_push okLink rfl _ _ rfl HA14.out rfl (a, b, true) _ rfl _ rfl rfl hl9 ?_; intro v15 w15 HA15 HG15)
                have HK15 := Lib.hid (HK14.out.grew HG15.out)
                go_roundw
                case rel => exact ⟨k + 1, _, rfl, by omega, by go_num, HK15, by rw [HF2.out]; exact HA15⟩
                case measure => simp [intOf]; omega
            · have HF2 : Hid ((all.take (k + 1)).filter pT = (all.take k).filter pT ++ [(a, b, true)]) := by unfold Hid; rw [HFT.out, HIK.out]; simp
              have hl9 : ((all.take k).filter pT).length + 1 ≤ 1073741824 := by have := List.length_filter_le pT (all.take k); rw [List.length_take] at this; omega
              obtain ⟨s6, s7, s8⟩ := tri_cells HKV12.out
              go_wp2_with (at_builtin; refine wpList_push okLink rfl _ _ rfl HA12.out rfl (a, b, true) _ rfl _ rfl rfl hl9 ?_; intro v15 w15 HA15 HG15)
              have HK15 := Lib.hid (HK12.out.grew HG15.out)
              go_roundw
              case rel => exact ⟨k + 1, _, rfl, by omega, by go_num, HK15, by rw [HF2.out]; exact HA15⟩
              case measure => simp [intOf]; omega
      · obtain rfl : k = all.length := by omega
        have ht : decide ((all.length : Int) < (all.length : Int)) = false := by simp
        rw [List.take_length, HTT.out] at HA
        have HRT := Lib.hid (HA.out.1.rd okLink)
        go_wp2_with fail
        refine (HSPT.out wr u HRT.out).mono ?_
        rintro e6 w6 ⟨u6, rfl, ho6, hb6⟩
        have HO6 := Lib.hid (ho6.rd okDomino)
        have HA6 := Lib.hid (HA.out.below hb6)
        clear ho6 hb6
        cases tb
        · have hOZ : OZ = [] := HOZ.out.symm.trans (by simp)
          have HNL : Hid (OwnF elLink w6 w.heap.size (.slice none 0 0) OZ) := by unfold Hid; rw [hOZ]; exact OwnF.nil
          clear hOZ
          go_wp2_with fail
          refine bodyPost_ret (v := .tuple #[.slice none 0 0, .bool false]) (by simp [results, Try.results45, go_sem]) rfl ⟨_, rfl, HNL.out, HA6.out.2.1⟩
        · go_wp2_with fail
          refine (SameD_any u6 _ TQ L w6.heap.size w6 HO6.out ((HV.out.below (HA6.out.2.1.mono hB)).more (Nat.le_trans hB HA6.out.2.1.size)) (Nat.le_refl _)).mono ?_
          rintro e7 w7 ⟨rfl, hd7⟩
          rw [HDB.out]
          have HB7 := Lib.hid (hd7.below w6.heap.size)
          have HA7 := Lib.hid (HA6.out.below HB7.out)
          clear hd7
          cases db
          · have hOZ : OZ = [] := HOZ.out.symm.trans (by simp)
            have HNL : Hid (OwnF elLink w7 w.heap.size (.slice none 0 0) OZ) := by unfold Hid; rw [hOZ]; exact OwnF.nil
            clear hOZ
            go_wp2_with fail
            refine bodyPost_ret (v := .tuple #[.slice none 0 0, .bool false]) (by simp [results, Try.results45, go_sem]) rfl ⟨_, rfl, HNL.out, HA7.out.2.1⟩
          · have hOZ : OZ = T := HOZ.out.symm.trans (by simp)
            rw [← hOZ] at HA7
            clear hOZ
            go_wp2_with fail
            refine bodyPost_ret (v := .tuple #[u, .bool true]) (by simp [results, Try.results45, go_sem]) rfl ⟨_, rfl, HA7.out.1, HA7.out.2.1⟩
end Go.Proofs.Ytehnbalbpfmijaa

namespace Go.Proofs.Ytehnbalbpfmijaa
open Go.RowKit
set_option linter.unusedVariables false

theorem tri_put {w : World} {b : Nat} {x0 y0 : Int} {d0 : Bool} {t : TypeId} (k : w.heap[b]? = some (triO x0 y0 d0 t)) (x y : Int) (d : Bool) : (((w.setCell ⟨b, 0, none⟩ (.int .i64 x)).setCell ⟨b, 1, none⟩ (.int .i64 y)).setCell ⟨b, 2, none⟩ (.bool d)).heap[b]? = some (triO x y d t) :=
  blk_setCell (k := 2) (blk_setCell (k := 1) (blk_setCell (k := 0) k (.int .i64 x)) (.int .i64 y)) (.bool d)
theorem tri_oth {w : World} {a b : Nat} (h : a ≠ b) (u v z : Value) : (((w.setCell ⟨b, 0, none⟩ u).setCell ⟨b, 1, none⟩ v).setCell ⟨b, 2, none⟩ z).heap[a]? = w.heap[a]? :=
  (Below.heap_setCell _ _ _ _ (by show a ≠ b; exact h)).trans ((Below.heap_setCell _ _ _ _ (by show a ≠ b; exact h)).trans (Below.heap_setCell _ _ _ _ (by show a ≠ b; exact h)))
theorem drew_blk (U : World) (a : Nat) : U.drew.heap[a]? = U.heap[a]? := rfl
theorem tri_stores {w V : World} {a b : Nat} {x y x' y' p q p' q' : Int} {d d' e e' : Bool} {ty : TypeId} (K1 : V.heap[a]? = some (triO p q e ty)) (K2 : V.heap[b]? = some (triO p' q' e' ty)) (hab : a ≠ b) (ha : w.heap.size ≤ a) (hb : w.heap.size ≤ b) (HB : Below w.heap.size w V) :
    ∀ X, X = ((((((V.setCell ⟨a, 0, none⟩ (.int .i64 x)).setCell ⟨a, 1, none⟩ (.int .i64 y)).setCell ⟨a, 2, none⟩ (.bool d)).setCell ⟨b, 0, none⟩ (.int .i64 x')).setCell ⟨b, 1, none⟩ (.int .i64 y')).setCell ⟨b, 2, none⟩ (.bool d')).drew →
      X.heap[a]? = some (triO x y d ty) ∧ X.heap[b]? = some (triO x' y' d' ty) ∧ Below w.heap.size w X := by
  intro X hX
  rw [hX]
  clear hX
  have h1 := (tri_oth hab (.int .i64 x') (.int .i64 y') (.bool d')).trans (tri_put K1 x y d)
  have h2 := tri_put ((tri_oth (Ne.symm hab) (.int .i64 x) (.int .i64 y) (.bool d)).trans K2) x' y' d'
  refine ⟨(drew_blk _ _).trans h1, (drew_blk _ _).trans h2, ((((((HB.setCell (p := ⟨a, 0, none⟩) ha _).setCell (p := ⟨a, 1, none⟩) ha _).setCell (p := ⟨a, 2, none⟩) ha _).setCell (p := ⟨b, 0, none⟩) hb _).setCell (p := ⟨b, 1, none⟩) hb _).setCell (p := ⟨b, 2, none⟩) hb _).drew⟩
/-- The other domino of a pair. -/
def othX (x : Int) (d : Bool) : Int := if d then x + 1 else x
def othY (y : Int) (d : Bool) : Int := if d then y else y + 1

set_option maxRecDepth 100000 in
set_option maxHeartbeats 1000000 in
theorem l11Pair_yes (x y : Int) (d : Bool) (hx : 0 ≤ x ∧ x ≤ 6) (hy : 0 ≤ y ∧ y ≤ 6) (w : World) :
    Calls Try.prog 115 #[spotV x y, .bool d] w fun e w' => e = .returned (.tuple #[triV x y d, triV (othX x d) (othY y d) d]) ∧ Below w.heap.size w w' := by
  obtain ⟨hx0, hx1⟩ := hx
  obtain ⟨hy0, hy1⟩ := hy
  cases d
  · have hw1 : IntKind.i64.wrap (y + 1) = y + 1 := IntWalk.i64_in _ (by omega)
    have hw2 : wrap64 (y + 1) = y + 1 := IntWalk.wrap64_in _ (by omega)
    go_enter Try.func115, Try.ntmps115
    go_wp2_with fail
    obtain ⟨W, hW, k0, k1, k2, hb⟩ := three_alloc w (.cells #[.int .i64 x, .int .i64 y] 44) (triO 0 0 false 46) (triO 0 0 false 46)
    rw [← hW]
    have c0 : W.drew.cell? ⟨w.heap.size, 0, none⟩ = some (.int .i64 x) := by show W.cell? _ = _; rw [blk_cell k0]; rfl
    have c1 : W.drew.cell? ⟨w.heap.size, 1, none⟩ = some (.int .i64 y) := by show W.cell? _ = _; rw [blk_cell k0]; rfl
    obtain ⟨d0, d1, d2⟩ := tri_cells k1
    obtain ⟨e0, e1, e2⟩ := tri_cells k2
    have f0 : ∀ o, W.frozen? ⟨w.heap.size + 1, o, none⟩ = false := fun o => blk_free k1
    have f2 : ∀ o, W.frozen? ⟨w.heap.size + 1 + 1, o, none⟩ = false := fun o => blk_free k2
    have g0 : W.cell? ⟨w.heap.size, 0, none⟩ = some (.int .i64 x) := by rw [blk_cell k0]; rfl
    have g1 : W.cell? ⟨w.heap.size, 1, none⟩ = some (.int .i64 y) := by rw [blk_cell k0]; rfl
    have T1 := Lib.hid (tri_stores (w := w) (V := W) (x := x) (y := y) (d := false) (x' := x) (y' := (y + 1)) (d' := false) k1 k2 (by omega) (by omega) (by omega) hb)
    clear hW k0 k1 k2 hb
    refine wp_region_held_drew (S := fun w' => w'.cell? ⟨w.heap.size, 0, none⟩ = some (.int .i64 x) ∧ w'.cell? ⟨w.heap.size, 1, none⟩ = some (.int .i64 y)) (by kernel_rfl) (by exact ⟨c0, c1⟩) (fun hHeld => ?_)
    refine wpAnyH_take (i := 0) (oi := ⟨_, _, _, _, _, _⟩) (v := ?vap31112q1n0) rfl (by kernel_rfl) (by kernel_rfl) (by kernel_rfl) (fun _ _ _ h => h) (Or.inl ⟨by rfl, ?hap31112q1n0⟩) (by assumption) ?_
    case hap31112q1n0 => (intro w hSw; (try dsimp only at hSw); go_simp; try with_reducible rfl)
    try simp only [Act.put, List.setIfInBounds_toArray, List.set_cons_zero, List.set_cons_succ]
    refine wpAnyH_take (i := 1) (oi := ⟨_, _, _, _, _, _⟩) (v := ?vap31112q2n1) rfl (by kernel_rfl) (by kernel_rfl) (by kernel_rfl) (fun _ _ _ h => h) (Or.inl ⟨by rfl, ?hap31112q2n1⟩) (by assumption) ?_
    case hap31112q2n1 => (intro w hSw; (try dsimp only at hSw); go_simp; try with_reducible rfl)
    try simp only [Act.put, List.setIfInBounds_toArray, List.set_cons_zero, List.set_cons_succ]
    refine wpAnyH_take (i := 2) (oi := ⟨_, _, _, _, _, _⟩) (v := ?vap31112q3n2) rfl (by kernel_rfl) (by kernel_rfl) (by kernel_rfl) (fun _ _ _ h => h) (Or.inl ⟨by rfl, ?hap31112q3n2⟩) (by assumption) ?_
    case hap31112q3n2 => (intro w hSw; (try dsimp only at hSw); go_simp; try with_reducible rfl)
    try simp only [Act.put, List.setIfInBounds_toArray, List.set_cons_zero, List.set_cons_succ]
    refine wpAnyH_take (i := 3) (oi := ⟨_, _, _, _, _, _⟩) (v := ?vap31112q4n3) rfl (by kernel_rfl) (by kernel_rfl) (by kernel_rfl) (fun _ _ _ h => h) (Or.inl ⟨by rfl, ?hap31112q4n3⟩) (by assumption) ?_
    case hap31112q4n3 => (intro w hSw; (try dsimp only at hSw); go_simp; try with_reducible rfl)
    try simp only [Act.put, List.setIfInBounds_toArray, List.set_cons_zero, List.set_cons_succ]
    refine wpAnyH_take (i := 4) (oi := ⟨_, _, _, _, _, _⟩) (v := ?vap31112q5n4) rfl (by kernel_rfl) (by kernel_rfl) (by kernel_rfl) (fun _ _ _ h => h) (Or.inl ⟨by rfl, ?hap31112q5n4⟩) (by assumption) ?_
    case hap31112q5n4 => (intro w hSw; (try dsimp only at hSw); go_simp; try with_reducible rfl)
    try simp only [Act.put, List.setIfInBounds_toArray, List.set_cons_zero, List.set_cons_succ]
    refine wpAnyH_take (i := 5) (oi := ⟨_, _, _, _, _, _⟩) (v := ?vap31112q6n5) rfl (by kernel_rfl) (by kernel_rfl) (by kernel_rfl) (fun _ _ _ h => h) (Or.inl ⟨by rfl, ?hap31112q6n5⟩) (by assumption) ?_
    case hap31112q6n5 => (intro w hSw; (try dsimp only at hSw); go_simp; try with_reducible rfl)
    try simp only [Act.put, List.setIfInBounds_toArray, List.set_cons_zero, List.set_cons_succ]
    refine wpAnyH_take (i := 6) (oi := ⟨_, _, _, _, _, _⟩) (v := ?vap31112q7n6) rfl (by kernel_rfl) (by kernel_rfl) (by kernel_rfl) (fun _ _ _ h => h) (Or.inl ⟨by rfl, ?hap31112q7n6⟩) (by assumption) ?_
    case hap31112q7n6 => (intro w hSw; (try dsimp only at hSw); go_simp; try with_reducible rfl)
    try simp only [Act.put, List.setIfInBounds_toArray, List.set_cons_zero, List.set_cons_succ]
    refine wpAnyH_take (i := 7) (oi := ⟨_, _, _, _, _, _⟩) (v := ?vap31112q8n7) rfl (by kernel_rfl) (by kernel_rfl) (by kernel_rfl) (fun _ _ _ h => h) (Or.inl ⟨by rfl, ?hap31112q8n7⟩) (by assumption) ?_
    case hap31112q8n7 => (intro w hSw; (try dsimp only at hSw); go_simp; try with_reducible rfl)
    try simp only [Act.put, List.setIfInBounds_toArray, List.set_cons_zero, List.set_cons_succ]
    refine wpAnyH_take (i := 8) (oi := ⟨_, _, _, _, _, _⟩) (v := ?vap31112q9n8) rfl (by kernel_rfl) (by kernel_rfl) (by kernel_rfl) (fun _ _ _ h => h) (Or.inl ⟨by rfl, ?hap31112q9n8⟩) (by assumption) ?_
    case hap31112q9n8 => (intro w hSw; (try dsimp only at hSw); go_simp; try with_reducible rfl)
    try simp only [Act.put, List.setIfInBounds_toArray, List.set_cons_zero, List.set_cons_succ]
    refine wpAnyH_take (i := 9) (oi := ⟨_, _, _, _, _, _⟩) (v := ?vap31112q10n9) rfl (by kernel_rfl) (by kernel_rfl) (by kernel_rfl) (fun _ _ _ h => h) (Or.inl ⟨by rfl, ?hap31112q10n9⟩) (by assumption) ?_
    case hap31112q10n9 => (intro w hSw; (try dsimp only at hSw); go_simp; try with_reducible rfl)
    try simp only [Act.put, List.setIfInBounds_toArray, List.set_cons_zero, List.set_cons_succ]
    refine wpAnyH_take (i := 10) (oi := ⟨_, _, _, _, _, _⟩) (v := ?vap31112q11n10) rfl (by kernel_rfl) (by kernel_rfl) (by kernel_rfl) (fun _ _ _ h => h) (Or.inl ⟨by rfl, ?hap31112q11n10⟩) (by assumption) ?_
    case hap31112q11n10 => (intro w hSw; (try dsimp only at hSw); go_simp; try with_reducible rfl)
    try simp only [Act.put, List.setIfInBounds_toArray, List.set_cons_zero, List.set_cons_succ]
    refine wpAnyH_ready (rs := [11]) (by kernel_rfl) (by simp) ?_
    refine AllReadyH.cons (o := ⟨_, _, _, _, _, _⟩) rfl (fun K hK => ?_) AllReadyH.nil
    go_simp
    refine hK.out _ _ (by (obtain ⟨hq0, hq1⟩ := hHeld; refine ⟨?_, ?_⟩ <;> go_simp)) (fun hHeld => ?_)
    clear hK K
    try simp only [Act.put, List.setIfInBounds_toArray, List.set_cons_zero, List.set_cons_succ]
    refine wpAnyH_ready (rs := [12]) (by kernel_rfl) (by simp) ?_
    refine AllReadyH.cons (o := ⟨_, _, _, _, _, _⟩) rfl (fun K hK => ?_) AllReadyH.nil
    go_simp
    refine hK.out _ _ (by (obtain ⟨hq0, hq1⟩ := hHeld; refine ⟨?_, ?_⟩ <;> go_simp)) (fun hHeld => ?_)
    clear hK K
    try simp only [Act.put, List.setIfInBounds_toArray, List.set_cons_zero, List.set_cons_succ]
    refine wpAnyH_done (by kernel_rfl) ?_ _
    go_wp2_with fail
    generalize hX : World.drew _ = X
    obtain ⟨r0, r1, r4⟩ := T1.out X hX.symm
    obtain ⟨p0, p1, p2⟩ := tri_cells r0
    obtain ⟨q0, q1, q2⟩ := tri_cells r1
    refine bodyPost_ret (v := .tuple #[triV x y false, triV x (y + 1) false]) (by simp [results, Try.results115, go_sem, p0, p1, p2, q0, q1, q2]) rfl ⟨rfl, r4⟩
  · have hw1 : IntKind.i64.wrap (x + 1) = x + 1 := IntWalk.i64_in _ (by omega)
    have hw2 : wrap64 (x + 1) = x + 1 := IntWalk.wrap64_in _ (by omega)
    go_enter Try.func115, Try.ntmps115
    go_wp2_with fail
    obtain ⟨W, hW, k0, k1, k2, hb⟩ := three_alloc w (.cells #[.int .i64 x, .int .i64 y] 44) (triO 0 0 false 46) (triO 0 0 false 46)
    rw [← hW]
    have c0 : W.drew.cell? ⟨w.heap.size, 0, none⟩ = some (.int .i64 x) := by show W.cell? _ = _; rw [blk_cell k0]; rfl
    have c1 : W.drew.cell? ⟨w.heap.size, 1, none⟩ = some (.int .i64 y) := by show W.cell? _ = _; rw [blk_cell k0]; rfl
    obtain ⟨d0, d1, d2⟩ := tri_cells k1
    obtain ⟨e0, e1, e2⟩ := tri_cells k2
    have f0 : ∀ o, W.frozen? ⟨w.heap.size + 1, o, none⟩ = false := fun o => blk_free k1
    have f2 : ∀ o, W.frozen? ⟨w.heap.size + 1 + 1, o, none⟩ = false := fun o => blk_free k2
    have g0 : W.cell? ⟨w.heap.size, 0, none⟩ = some (.int .i64 x) := by rw [blk_cell k0]; rfl
    have g1 : W.cell? ⟨w.heap.size, 1, none⟩ = some (.int .i64 y) := by rw [blk_cell k0]; rfl
    have T1 := Lib.hid (tri_stores (w := w) (V := W) (x := x) (y := y) (d := true) (x' := (x + 1)) (y' := y) (d' := true) k1 k2 (by omega) (by omega) (by omega) hb)
    clear hW k0 k1 k2 hb
    refine wp_region_held_drew (S := fun w' => w'.cell? ⟨w.heap.size, 0, none⟩ = some (.int .i64 x) ∧ w'.cell? ⟨w.heap.size, 1, none⟩ = some (.int .i64 y)) (by kernel_rfl) (by exact ⟨c0, c1⟩) (fun hHeld => ?_)
    refine wpAnyH_take (i := 0) (oi := ⟨_, _, _, _, _, _⟩) (v := ?vap31113q1n0) rfl (by kernel_rfl) (by kernel_rfl) (by kernel_rfl) (fun _ _ _ h => h) (Or.inl ⟨by rfl, ?hap31113q1n0⟩) (by assumption) ?_
    case hap31113q1n0 => (intro w hSw; (try dsimp only at hSw); go_simp; try with_reducible rfl)
    try simp only [Act.put, List.setIfInBounds_toArray, List.set_cons_zero, List.set_cons_succ]
    refine wpAnyH_take (i := 1) (oi := ⟨_, _, _, _, _, _⟩) (v := ?vap31113q2n1) rfl (by kernel_rfl) (by kernel_rfl) (by kernel_rfl) (fun _ _ _ h => h) (Or.inl ⟨by rfl, ?hap31113q2n1⟩) (by assumption) ?_
    case hap31113q2n1 => (intro w hSw; (try dsimp only at hSw); go_simp; try with_reducible rfl)
    try simp only [Act.put, List.setIfInBounds_toArray, List.set_cons_zero, List.set_cons_succ]
    refine wpAnyH_take (i := 2) (oi := ⟨_, _, _, _, _, _⟩) (v := ?vap31113q3n2) rfl (by kernel_rfl) (by kernel_rfl) (by kernel_rfl) (fun _ _ _ h => h) (Or.inl ⟨by rfl, ?hap31113q3n2⟩) (by assumption) ?_
    case hap31113q3n2 => (intro w hSw; (try dsimp only at hSw); go_simp; try with_reducible rfl)
    try simp only [Act.put, List.setIfInBounds_toArray, List.set_cons_zero, List.set_cons_succ]
    refine wpAnyH_take (i := 3) (oi := ⟨_, _, _, _, _, _⟩) (v := ?vap31113q4n3) rfl (by kernel_rfl) (by kernel_rfl) (by kernel_rfl) (fun _ _ _ h => h) (Or.inl ⟨by rfl, ?hap31113q4n3⟩) (by assumption) ?_
    case hap31113q4n3 => (intro w hSw; (try dsimp only at hSw); go_simp; try with_reducible rfl)
    try simp only [Act.put, List.setIfInBounds_toArray, List.set_cons_zero, List.set_cons_succ]
    refine wpAnyH_take (i := 4) (oi := ⟨_, _, _, _, _, _⟩) (v := ?vap31113q5n4) rfl (by kernel_rfl) (by kernel_rfl) (by kernel_rfl) (fun _ _ _ h => h) (Or.inl ⟨by rfl, ?hap31113q5n4⟩) (by assumption) ?_
    case hap31113q5n4 => (intro w hSw; (try dsimp only at hSw); go_simp; try with_reducible rfl)
    try simp only [Act.put, List.setIfInBounds_toArray, List.set_cons_zero, List.set_cons_succ]
    refine wpAnyH_take (i := 5) (oi := ⟨_, _, _, _, _, _⟩) (v := ?vap31113q6n5) rfl (by kernel_rfl) (by kernel_rfl) (by kernel_rfl) (fun _ _ _ h => h) (Or.inl ⟨by rfl, ?hap31113q6n5⟩) (by assumption) ?_
    case hap31113q6n5 => (intro w hSw; (try dsimp only at hSw); go_simp; try with_reducible rfl)
    try simp only [Act.put, List.setIfInBounds_toArray, List.set_cons_zero, List.set_cons_succ]
    refine wpAnyH_take (i := 6) (oi := ⟨_, _, _, _, _, _⟩) (v := ?vap31113q7n6) rfl (by kernel_rfl) (by kernel_rfl) (by kernel_rfl) (fun _ _ _ h => h) (Or.inl ⟨by rfl, ?hap31113q7n6⟩) (by assumption) ?_
    case hap31113q7n6 => (intro w hSw; (try dsimp only at hSw); go_simp; try with_reducible rfl)
    try simp only [Act.put, List.setIfInBounds_toArray, List.set_cons_zero, List.set_cons_succ]
    refine wpAnyH_take (i := 7) (oi := ⟨_, _, _, _, _, _⟩) (v := ?vap31113q8n7) rfl (by kernel_rfl) (by kernel_rfl) (by kernel_rfl) (fun _ _ _ h => h) (Or.inl ⟨by rfl, ?hap31113q8n7⟩) (by assumption) ?_
    case hap31113q8n7 => (intro w hSw; (try dsimp only at hSw); go_simp; try with_reducible rfl)
    try simp only [Act.put, List.setIfInBounds_toArray, List.set_cons_zero, List.set_cons_succ]
    refine wpAnyH_take (i := 8) (oi := ⟨_, _, _, _, _, _⟩) (v := ?vap31113q9n8) rfl (by kernel_rfl) (by kernel_rfl) (by kernel_rfl) (fun _ _ _ h => h) (Or.inl ⟨by rfl, ?hap31113q9n8⟩) (by assumption) ?_
    case hap31113q9n8 => (intro w hSw; (try dsimp only at hSw); go_simp; try with_reducible rfl)
    try simp only [Act.put, List.setIfInBounds_toArray, List.set_cons_zero, List.set_cons_succ]
    refine wpAnyH_take (i := 9) (oi := ⟨_, _, _, _, _, _⟩) (v := ?vap31113q10n9) rfl (by kernel_rfl) (by kernel_rfl) (by kernel_rfl) (fun _ _ _ h => h) (Or.inl ⟨by rfl, ?hap31113q10n9⟩) (by assumption) ?_
    case hap31113q10n9 => (intro w hSw; (try dsimp only at hSw); go_simp; try with_reducible rfl)
    try simp only [Act.put, List.setIfInBounds_toArray, List.set_cons_zero, List.set_cons_succ]
    refine wpAnyH_take (i := 10) (oi := ⟨_, _, _, _, _, _⟩) (v := ?vap31113q11n10) rfl (by kernel_rfl) (by kernel_rfl) (by kernel_rfl) (fun _ _ _ h => h) (Or.inl ⟨by rfl, ?hap31113q11n10⟩) (by assumption) ?_
    case hap31113q11n10 => (intro w hSw; (try dsimp only at hSw); go_simp; try with_reducible rfl)
    try simp only [Act.put, List.setIfInBounds_toArray, List.set_cons_zero, List.set_cons_succ]
    refine wpAnyH_ready (rs := [11]) (by kernel_rfl) (by simp) ?_
    refine AllReadyH.cons (o := ⟨_, _, _, _, _, _⟩) rfl (fun K hK => ?_) AllReadyH.nil
    go_simp
    refine hK.out _ _ (by (obtain ⟨hq0, hq1⟩ := hHeld; refine ⟨?_, ?_⟩ <;> go_simp)) (fun hHeld => ?_)
    clear hK K
    try simp only [Act.put, List.setIfInBounds_toArray, List.set_cons_zero, List.set_cons_succ]
    refine wpAnyH_ready (rs := [12]) (by kernel_rfl) (by simp) ?_
    refine AllReadyH.cons (o := ⟨_, _, _, _, _, _⟩) rfl (fun K hK => ?_) AllReadyH.nil
    go_simp
    refine hK.out _ _ (by (obtain ⟨hq0, hq1⟩ := hHeld; refine ⟨?_, ?_⟩ <;> go_simp)) (fun hHeld => ?_)
    clear hK K
    try simp only [Act.put, List.setIfInBounds_toArray, List.set_cons_zero, List.set_cons_succ]
    refine wpAnyH_done (by kernel_rfl) ?_ _
    go_wp2_with fail
    generalize hX : World.drew _ = X
    obtain ⟨r0, r1, r4⟩ := T1.out X hX.symm
    obtain ⟨p0, p1, p2⟩ := tri_cells r0
    obtain ⟨q0, q1, q2⟩ := tri_cells r1
    refine bodyPost_ret (v := .tuple #[triV x y true, triV (x + 1) y true]) (by simp [results, Try.results115, go_sem, p0, p1, p2, q0, q1, q2]) rfl ⟨rfl, r4⟩
end Go.Proofs.Ytehnbalbpfmijaa
