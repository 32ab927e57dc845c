/- What the claim's walk rests on: parts SortI. -/
import Derived.Test.YtehnbalbpfmijaaKCFx8
import Derived.Test.YtehnbalbpfmijaaKCFx9
import Derived.Test.YtehnbalbpfmijaaPartialKCFx
import Derived.Deep.RegionHeld3
import Derived.Deep.RegionLaw
namespace Go.Proofs.Ytehnbalbpfmijaa
open Go.RowKit
set_option linter.unusedVariables false

theorem tri_cells {w : World} {a : Nat} {x y : Int} {d : Bool} {t : TypeId} (h : w.heap[a]? = some (triO x y d t)) : w.cell? ⟨a, 0, none⟩ = some (.int .i64 x) ∧ w.cell? ⟨a, 1, none⟩ = some (.int .i64 y) ∧ w.cell? ⟨a, 2, none⟩ = some (.bool d) :=
  ⟨by rw [blk_cell h]; rfl, by rw [blk_cell h]; rfl, by rw [blk_cell h]; rfl⟩
theorem blk_grew {W6 w7 : World} {v v' : Value} {a : Nat} {o : Obj} (h : W6.heap[a]? = some o) (hG : Grew W6 w7 v v') (hob : ∀ g, v.ownBlock = some g → g < a) : w7.heap[a]? = some o ∧ ∀ g, v'.ownBlock = some g → a ≠ g := by
  obtain ⟨g1, g, g2, g3, g4⟩ := hG
  have hl := lt_of_block h
  refine ⟨(g1.block a hl fun e => by have := hob a e.symm; omega).trans h, fun k hk => ?_⟩
  rw [g2] at hk
  obtain rfl := Option.some.inj hk
  rcases g3 with g3 | g3
  · have := hob _ g3; omega
  · omega
theorem set_shift {α : Type} (ys : List α) (j : Nat) (z : α) (h : j < ys.length) : (ys.take (j + 1) ++ ys.drop j).set j z = ys.take j ++ z :: ys.drop j := by
  have e : ys.take (j + 1) = ys.take j ++ [ys[j]] := by rw [List.take_succ_eq_append_getElem h]
  have hl : (ys.take j).length = j := by simp; omega
  rw [e, List.append_assoc, List.set_append_right _ _ (by omega), hl, Nat.sub_self]
  rfl
set_option maxRecDepth 100000 in
set_option maxHeartbeats 4000000 in
theorem SortDominoes_any (v : Value) (ls : List Lk) (B : Nat) (w : World) (h : RdF elDomino w B v ls) (hB : B ≤ w.heap.size) :
    Calls Try.prog 75 #[v] w fun e w' => ∃ u, e = .returned u ∧ OwnF elDomino w' w.heap.size u (sortI ls ls.length) ∧ Below w.heap.size w w' := by
  obtain ⟨A, c, rfl, g1, g2, G3⟩ := RdT.of (E := elDomino) rfl (fun _ => rfl) h
  unfold maxLen at g2
  clear h
  have HA0 : Hid (Acc elDomino w w.heap.size (w.alloc (.cells #[] 46)) (.slice (some ⟨w.heap.size, 0, none⟩) 0 0) []) := Acc.start w
  have HSS := Lib.hid (sort_same ls)
  have HSI : Hid (∀ k, sortI ls (k + 1) = if domL (dAt ls k) then insI (dAt ls k) (sortI ls k) else sortI ls k) := fun k => rfl
  have HS0 : Hid (sortI ls 0 = []) := rfl
  obtain ⟨st, HST⟩ : ∃ st, Hid (st = sortI ls) := ⟨_, rfl⟩
  rw [← HST.out] at HSI HS0 ⊢
  have HSR : Hid (∀ k, Sorted (st k)) := fun k => by rw [HST.out]; exact (HSS.out k).2
  clear HST HSS
  go_enter Try.func75, Try.ntmps75
  go_wp2_with fail
  go_loopw [3, 10] (fun o i wr => ∃ (k : Nat) (u : Value), k ≤ ls.length ∧ i = .int .i64 k ∧ u = o ∧ Hid (Acc elDomino w w.heap.size wr u (st k))) (fun _ i _ => ls.length - (intOf i).toNat)
  case atStart => exact ⟨0, _, Nat.zero_le _, rfl, rfl, by rw [HS0.out]; exact HA0⟩
  case round =>
    obtain ⟨k, u, hk, rfl, rfl, HA⟩ := hrel
    obtain ⟨A1, ca, hv, q1, q2, _⟩ := HA.out.1.rd okDomino
    subst hv
    unfold maxLen at q2
    by_cases hlt : k < ls.length
    · have ht : decide ((k : Int) < (ls.length : Int)) = true := by simp only [decide_eq_true_eq]; omega
      obtain ⟨ad, rfl, hbl, hx, hy, hz⟩ := G3.out k hlt
      have hbl2 : (ad.add (k * 3)).block < w.heap.size := by rw [addBlock]; omega
      have hbw := HA.out.2.1
      have hx' := (hbw.cell (p := ad.add (k * 3)) hbl2).trans hx
      have hy' := (hbw.cell (p := ⟨(ad.add (k * 3)).block, (ad.add (k * 3)).off + 1, none⟩) hbl2).trans hy
      have hz' := (hbw.cell (p := ⟨(ad.add (k * 3)).block, (ad.add (k * 3)).off + 2, none⟩) hbl2).trans hz
      have HNX := Lib.hid (HSI.out k)
      have HYS := Lib.hid (HSR.out k)
      have hshort := (HSR.out k).short
      have HDA : Hid (dAt ls k = (lx ls k, ly ls k, ld ls k)) := rfl
      rw [HDA.out] at HNX
      have hk0 : (0 : Int) ≤ (k : Int) := by omega
      have hk1 : (k : Int) < (ls.length : Int) := by omega
      generalize lx ls k = x at *
      generalize ly ls k = y at *
      generalize ld ls k = d at *
      obtain ⟨ys, HYQ⟩ : ∃ ys, Hid (st k = ys) := ⟨_, rfl⟩
      rw [HYQ.out] at HA HNX HYS hshort q1 ⊢
      clear hx hy hz hbw HDA HYQ
      go_wp2_with fail
      obtain ⟨V, hV, k1, hbV⟩ := one_alloc wr (triO x y d 46)
      rw [← hV]
      obtain ⟨vn, hvn⟩ : ∃ vn, wr.heap.size = vn := ⟨_, rfl⟩
      rw [hvn] at k1 ⊢
      have HA2 := Lib.hid (HA.out.below hbV)
      have HK0 := Lib.hid k1
      have HOB : Hid (∀ g, (Value.slice A1 ys.length ca).ownBlock = some g → g < vn) := fun g hg => by rw [← hvn]; exact (HA.out.1.lt g hg).2
      clear hV k1 hbV hx' hy' hz' hvn
      refine (DominoOk_any x y d _).mono ?_
      rintro e w1 ⟨rfl, hb1⟩
      have HK1 := Lib.hid (blk_below HK0.out hb1)
      have HA3 := Lib.hid (HA2.out.below hb1)
      clear hb1
      obtain ⟨f1, f2, f3⟩ := tri_cells HK1.out
      cases hd : domB x y d
      · have HE : Hid (st (k + 1) = ys) := by unfold Hid; rw [HNX.out, if_neg (by simp [domL, hd])]
        clear HNX hd
        go_wp2_with fail
        go_roundw
        case rel => exact ⟨k + 1, _, by omega, by go_num, rfl, by rw [HE.out]; exact HA3⟩
        case measure => simp [intOf]; omega
      · have HE : Hid (st (k + 1) = insI (x, y, d) ys) := by unfold Hid; rw [HNX.out, if_pos (by simp [domL, hd])]
        have HD := Lib.hid hd
        clear HNX
        have hC2 := Lib.hid fun V => order_Z x y d V hd
        have HIN : Hid (insI (x, y, d) ys = if decide (0 < downK ys (domO x.toNat y.toNat d) ys.length) && (dAt ys (downK ys (domO x.toNat y.toNat d) ys.length - 1) == (x, y, d)) then ys else ys.take (downK ys (domO x.toNat y.toNat d) ys.length) ++ (x, y, d) :: ys.drop (downK ys (domO x.toNat y.toNat d) ys.length)) := rfl
        generalize domO x.toNat y.toNat d = o at *
        obtain ⟨q, HQ⟩ : ∃ q, Hid (downK ys o ys.length = q) := ⟨_, rfl⟩
        rw [HQ.out] at HIN
        rw [HIN.out] at HE
        clear hd HIN
        go_wp2_with fail
        go_loopw [6] (fun s wr2 => ∃ j : Nat, j ≤ ys.length ∧ s = .int .i64 j ∧ Hid (downK ys o j = q) ∧ Hid (Below w1.heap.size w1 wr2)) (fun s _ => (intOf s).toNat)
        case atStart => exact ⟨ys.length, Nat.le_refl _, rfl, HQ, Below.refl _ _⟩
        case round =>
          obtain ⟨j, hj, rfl, HJ, HB⟩ := hrel
          have HA4 := Lib.hid (HA3.out.below HB.out)
          have HK2 := Lib.hid (blk_below HK1.out HB.out)
          obtain ⟨e1, e2, e3⟩ := tri_cells HK2.out
          clear f1 f2 f3
          have hj0 : (0 : Int) ≤ (j : Int) := by omega
          have hw1 : IntKind.i64.wrap ((j : Int) + 1) = (j : Int) + 1 := IntWalk.i64_in _ (by omega)
          have hn1 : ((j : Int) + 1).toNat = j + 1 := by omega
          by_cases hjz : j = 0
          · have hq0 : q = 0 := by subst hjz; exact HJ.out.symm
            have HE0 : Hid (st (k + 1) = ys.take j ++ (x, y, d) :: ys.drop j) := by unfold Hid; rw [HE.out, hq0, hjz]; simp
            have htz : decide (0 < j) = false := by simp only [decide_eq_false_iff_not]; omega
            clear HE hq0 hjz
            go_wp2_with fail
            go_quiet (fail)
            obtain ⟨W5, HW5⟩ : ∃ W5, Hid (W5 = wr.drewN nq) := ⟨_, rfl⟩
            rw [← HW5.out]
            go_wp2_with fail
            go_quiet (fail)
            obtain ⟨W6, HW6⟩ : ∃ W6, Hid (W6 = W5.drewN nq) := ⟨_, rfl⟩
            rw [← HW6.out]
            have HBW : Hid (Below wr.heap.size wr W6) := by unfold Hid; rw [HW6.out, HW5.out]; exact (Drawn.below ⟨_, rfl⟩ _).trans ((Drawn.below ⟨_, rfl⟩ _))
            have HA6 := Lib.hid (HA4.out.below HBW.out)
            have HK6 := Lib.hid (blk_below HK2.out HBW.out)
            go_wp2_with (at_builtin; refine wpList_push okDomino rfl _ _ rfl HA6.out rfl (0, 0, false) _ rfl _ rfl rfl (by omega) ?_; intro v7 w7 HA7 HG7; obtain ⟨g7, c7, hv7, hgb7, hglt7⟩ := World.ownsRow.form HA7.out.1 (by simp); rw [List.length_append, List.length_singleton] at hv7; subst hv7)
            have hc7 : ys.length + 1 ≤ c7 := by
              obtain ⟨A9, c9, hv9, q91, q92, _⟩ := HA7.out.1.rd okDomino
              simp at hv9 q91
              omega
            have hge : (0 : Int) ≤ (j : Int) + 1 := by omega
            have HK7 := Lib.hid (blk_grew HK6.out HG7.out HOB.out)
            by_cases hjl : j = ys.length
            · have hle : (j : Int) + 1 ≤ (ys.length : Int) + 1 := by omega
              have hle' : (j : Int) ≤ (ys.length : Int) + 1 := by omega
              have hmin : Nat.min (ys.length + 1 - j) (ys.length - j) = 0 := by show min _ _ = 0; omega
              have HJL := Lib.hid hjl
              clear hjl
              refine wp_region_held_drew (S := fun _ => True) (by kernel_rfl) (by exact trivial) (fun hHeld => ?_)
              refine wpAnyH_take (i := 0) (oi := ⟨_, _, _, _, _, _⟩) (v := ?vap29651q1n0) rfl (by kernel_rfl) (by kernel_rfl) (by kernel_rfl) (fun _ _ _ h => h) (Or.inl ⟨by rfl, ?hap29651q1n0⟩) (by assumption) ?_
              case hap29651q1n0 => (intro w hSw; (try dsimp only at hSw); go_simp; try with_reducible rfl)
              try simp only [Act.put, List.setIfInBounds_toArray, List.set_cons_zero, List.set_cons_succ]
              refine wpAnyH_take (i := 1) (oi := ⟨_, _, _, _, _, _⟩) (v := ?vap29651q2n1) rfl (by kernel_rfl) (by kernel_rfl) (by kernel_rfl) (fun _ _ _ h => h) (Or.inl ⟨by rfl, ?hap29651q2n1⟩) (by assumption) ?_
              case hap29651q2n1 => (intro w hSw; (try dsimp only at hSw); go_simp; try with_reducible rfl)
              try simp only [Act.put, List.setIfInBounds_toArray, List.set_cons_zero, List.set_cons_succ]
              refine wpAnyH_take (i := 2) (oi := ⟨_, _, _, _, _, _⟩) (v := ?vap29651q3n2) rfl (by kernel_rfl) (by kernel_rfl) (by kernel_rfl) (fun _ _ _ h => h) (Or.inl ⟨by rfl, ?hap29651q3n2⟩) (by assumption) ?_
              case hap29651q3n2 => (intro w hSw; (try dsimp only at hSw); go_simp; try with_reducible rfl)
              try simp only [Act.put, List.setIfInBounds_toArray, List.set_cons_zero, List.set_cons_succ]
              refine wpAnyH_take (i := 3) (oi := ⟨_, _, _, _, _, _⟩) (v := ?vap29651q4n3) rfl (by kernel_rfl) (by kernel_rfl) (by kernel_rfl) (fun _ _ _ h => h) (Or.inl ⟨by rfl, ?hap29651q4n3⟩) (by assumption) ?_
              case hap29651q4n3 => (intro w hSw; (try dsimp only at hSw); go_simp; try with_reducible rfl)
              try simp only [Act.put, List.setIfInBounds_toArray, List.set_cons_zero, List.set_cons_succ]
              refine wpAnyH_take (i := 4) (oi := ⟨_, _, _, _, _, _⟩) (v := ?vap29651q5n4) rfl (by kernel_rfl) (by kernel_rfl) (by kernel_rfl) (fun _ _ _ h => h) (Or.inl ⟨by rfl, ?hap29651q5n4⟩) (by assumption) ?_
              case hap29651q5n4 => (intro w hSw; (try dsimp only at hSw); go_simp; try with_reducible rfl)
              try simp only [Act.put, List.setIfInBounds_toArray, List.set_cons_zero, List.set_cons_succ]
              refine wpAnyH_take (i := 5) (oi := ⟨_, _, _, _, _, _⟩) (v := ?vap29651q6n5) rfl (by kernel_rfl) (by kernel_rfl) (by kernel_rfl) (fun _ _ _ h => h) (Or.inl ⟨by rfl, ?hap29651q6n5⟩) (by assumption) ?_
              case hap29651q6n5 => (intro w hSw; (try dsimp only at hSw); go_simp; try with_reducible rfl)
              try simp only [Act.put, List.setIfInBounds_toArray, List.set_cons_zero, List.set_cons_succ]
              refine wpAnyH_take (i := 6) (oi := ⟨_, _, _, _, _, _⟩) (v := ?vap29651q7n6) rfl (by kernel_rfl) (by kernel_rfl) (by kernel_rfl) (fun _ _ _ h => h) (Or.inl ⟨by rfl, ?hap29651q7n6⟩) (by assumption) ?_
              case hap29651q7n6 => (intro w hSw; (try dsimp only at hSw); go_simp; try with_reducible rfl)
              try simp only [Act.put, List.setIfInBounds_toArray, List.set_cons_zero, List.set_cons_succ]
              refine wpAnyH_ready (rs := [7]) (by kernel_rfl) (by simp) ?_
              refine AllReadyH.cons (o := ⟨_, _, _, _, _, _⟩) rfl (fun K hK => ?_) AllReadyH.nil
              refine step_copyNone okDomino (by rfl) (.tmp 52) (.tmp 55) (by rfl) (by rfl) (by rfl) hmin ?_
              refine hK.out _ _ (by exact trivial) (fun hHeld => ?_)
              clear hK K
              try simp only [Act.put, List.setIfInBounds_toArray, List.set_cons_zero, List.set_cons_succ]
              refine wpAnyH_done (by kernel_rfl) ?_ _
              obtain ⟨w8, HW8⟩ : ∃ w8, Hid (w8 = w7.drew) := ⟨_, rfl⟩
              rw [← HW8.out]
              obtain ⟨zs, HZS⟩ : ∃ zs, Hid (zs = ys ++ [((0, 0, false) : Lk)]) := ⟨_, rfl⟩
              have HO8 : Hid (OwnF elDomino w8 w.heap.size (.slice (some ⟨g7, 0, none⟩) zs.length c7) zs) := by
                unfold Hid; rw [HW8.out, HZS.out, List.length_append, List.length_singleton]
                exact HA7.out.1
              have HZL : Hid (zs.length = ys.length + 1) := by rw [HZS.out]; unfold Hid; simp
              have HZE : Hid (zs.set j (x, y, d) = ys.take j ++ (x, y, d) :: ys.drop j) := by unfold Hid; rw [HZS.out, HJL.out]; simp
              have HB8 : Hid (Below w.heap.size w w8) := by unfold Hid; rw [HW8.out]; exact HA7.out.2.1.trans (Drawn.below ⟨_, rfl⟩ _)
              have HK8 := Lib.hid (show w8.heap[_]? = _ from (congrArg (fun q : World => q.heap[_]?) HW8.out).trans HK7.out.1)
              have hzl : zs.length = ys.length + 1 := HZL.out
              obtain ⟨c0, c1, c2, hfr, ht3⟩ := triStore okDomino rfl (fun _ => rfl) (cap := c7) (ls := zs) HO8.out (j := j) (by omega)
              obtain ⟨hst, hgr⟩ := ht3 x y d
              rw [List.length_set, hzl] at hst
              have HBN := Lib.hid (HB8.out.grown hgr HB8.out.size (fun q hq => by obtain rfl := Option.some.inj hq; exact hgb7))
              have hle9 := HBN.out.size
              have HN := Lib.hid hst
              have hj7 : (j : Int) < (ys.length : Int) + 1 := by omega
              obtain ⟨h1, h2, h3⟩ := tri_cells HK8.out
              clear hst hgr ht3 hzl
              go_wp2_with fail
              go_roundw
              case rel => exact ⟨k + 1, _, by omega, by go_num, rfl, by rw [HE0.out, ← HZE.out]; exact ⟨HN.out, HBN.out, Nat.le_refl _, hle9⟩⟩
              case measure => simp [intOf]; omega
            · have hle : (j : Int) + 1 ≤ (ys.length : Int) + 1 := by omega
              have hle' : (j : Int) ≤ (ys.length : Int) + 1 := by omega
              have hc8 : ¬ c7 = j + 1 := by omega
              have hc9 : ¬ c7 = j := by omega
              have hjlt : j < ys.length := by omega
              clear hjl
              refine wp_region_held_drew (S := fun _ => True) (by kernel_rfl) (by exact trivial) (fun hHeld => ?_)
              refine wpAnyH_take (i := 0) (oi := ⟨_, _, _, _, _, _⟩) (v := ?vap29652q1n0) rfl (by kernel_rfl) (by kernel_rfl) (by kernel_rfl) (fun _ _ _ h => h) (Or.inl ⟨by rfl, ?hap29652q1n0⟩) (by assumption) ?_
              case hap29652q1n0 => (intro w hSw; (try dsimp only at hSw); go_simp; try with_reducible rfl)
              try simp only [Act.put, List.setIfInBounds_toArray, List.set_cons_zero, List.set_cons_succ]
              refine wpAnyH_take (i := 1) (oi := ⟨_, _, _, _, _, _⟩) (v := ?vap29652q2n1) rfl (by kernel_rfl) (by kernel_rfl) (by kernel_rfl) (fun _ _ _ h => h) (Or.inl ⟨by rfl, ?hap29652q2n1⟩) (by assumption) ?_
              case hap29652q2n1 => (intro w hSw; (try dsimp only at hSw); go_simp; try with_reducible rfl)
              try simp only [Act.put, List.setIfInBounds_toArray, List.set_cons_zero, List.set_cons_succ]
              refine wpAnyH_take (i := 2) (oi := ⟨_, _, _, _, _, _⟩) (v := ?vap29652q3n2) rfl (by kernel_rfl) (by kernel_rfl) (by kernel_rfl) (fun _ _ _ h => h) (Or.inl ⟨by rfl, ?hap29652q3n2⟩) (by assumption) ?_
              case hap29652q3n2 => (intro w hSw; (try dsimp only at hSw); go_simp; try with_reducible rfl)
              try simp only [Act.put, List.setIfInBounds_toArray, List.set_cons_zero, List.set_cons_succ]
              refine wpAnyH_take (i := 3) (oi := ⟨_, _, _, _, _, _⟩) (v := ?vap29652q4n3) rfl (by kernel_rfl) (by kernel_rfl) (by kernel_rfl) (fun _ _ _ h => h) (Or.inl ⟨by rfl, ?hap29652q4n3⟩) (by assumption) ?_
              case hap29652q4n3 => (intro w hSw; (try dsimp only at hSw); go_simp; try with_reducible rfl)
              try simp only [Act.put, List.setIfInBounds_toArray, List.set_cons_zero, List.set_cons_succ]
              refine wpAnyH_take (i := 4) (oi := ⟨_, _, _, _, _, _⟩) (v := ?vap29652q5n4) rfl (by kernel_rfl) (by kernel_rfl) (by kernel_rfl) (fun _ _ _ h => h) (Or.inl ⟨by rfl, ?hap29652q5n4⟩) (by assumption) ?_
              case hap29652q5n4 => (intro w hSw; (try dsimp only at hSw); go_simp; try with_reducible rfl)
              try simp only [Act.put, List.setIfInBounds_toArray, List.set_cons_zero, List.set_cons_succ]
              refine wpAnyH_take (i := 5) (oi := ⟨_, _, _, _, _, _⟩) (v := ?vap29652q6n5) rfl (by kernel_rfl) (by kernel_rfl) (by kernel_rfl) (fun _ _ _ h => h) (Or.inl ⟨by rfl, ?hap29652q6n5⟩) (by assumption) ?_
              case hap29652q6n5 => (intro w hSw; (try dsimp only at hSw); go_simp; try with_reducible rfl)
              try simp only [Act.put, List.setIfInBounds_toArray, List.set_cons_zero, List.set_cons_succ]
              refine wpAnyH_take (i := 6) (oi := ⟨_, _, _, _, _, _⟩) (v := ?vap29652q7n6) rfl (by kernel_rfl) (by kernel_rfl) (by kernel_rfl) (fun _ _ _ h => h) (Or.inl ⟨by rfl, ?hap29652q7n6⟩) (by assumption) ?_
              case hap29652q7n6 => (intro w hSw; (try dsimp only at hSw); go_simp; try with_reducible rfl)
              try simp only [Act.put, List.setIfInBounds_toArray, List.set_cons_zero, List.set_cons_succ]
              refine wpAnyH_ready (rs := [7]) (by kernel_rfl) (by simp) ?_
              refine AllReadyH.cons (o := ⟨_, _, _, _, _, _⟩) rfl (fun K hK => ?_) AllReadyH.nil
              refine step_copyIn okDomino (by rfl) (.tmp 52) (.tmp 55) (by rfl) g7 c7 j (ys.length - j) _ _ w.heap.size ys (0, 0, false) (by rfl) (by rfl) (by rfl) (show OwnF _ w7.drew _ _ _ from HA7.out.1) hjlt ?_
              intro w8 HO8 HG8
              refine hK.out _ _ (by exact trivial) (fun hHeld => ?_)
              clear hK K
              try simp only [Act.put, List.setIfInBounds_toArray, List.set_cons_zero, List.set_cons_succ]
              refine wpAnyH_done (by kernel_rfl) ?_ _
              obtain ⟨zs, HZS⟩ : ∃ zs, Hid (zs = ys.take (j + 1) ++ ys.drop j) := ⟨_, rfl⟩
              have HZL : Hid (zs.length = ys.length + 1) := by rw [HZS.out]; unfold Hid; simp; omega
              have HO8 : Hid (OwnF elDomino w8 w.heap.size (.slice (some ⟨g7, 0, none⟩) zs.length c7) zs) := by
                unfold Hid; rw [HZL.out, HZS.out]
                exact HO8.out
              have HZE : Hid (zs.set j (x, y, d) = ys.take j ++ (x, y, d) :: ys.drop j) := by unfold Hid; rw [HZS.out]; exact set_shift ys j (x, y, d) hjlt
              have HB8 : Hid (Below w.heap.size w w8) := by
                have h9 : Below w.heap.size w w7.drew := HA7.out.2.1.trans (Drawn.below ⟨_, rfl⟩ _)
                exact h9.grown HG8.out h9.size (fun q hq => by obtain rfl := Option.some.inj hq; exact hgb7)
              have HK8 := Lib.hid ((HG8.out.block _ (lt_of_block HK7.out.1) (fun e => HK7.out.2 g7 rfl (Option.some.inj e))).trans HK7.out.1)
              have hzl : zs.length = ys.length + 1 := HZL.out
              obtain ⟨c0, c1, c2, hfr, ht3⟩ := triStore okDomino rfl (fun _ => rfl) (cap := c7) (ls := zs) HO8.out (j := j) (by omega)
              obtain ⟨hst, hgr⟩ := ht3 x y d
              rw [List.length_set, hzl] at hst
              have HBN := Lib.hid (HB8.out.grown hgr HB8.out.size (fun q hq => by obtain rfl := Option.some.inj hq; exact hgb7))
              have hle9 := HBN.out.size
              have HN := Lib.hid hst
              have hj7 : (j : Int) < (ys.length : Int) + 1 := by omega
              obtain ⟨h1, h2, h3⟩ := tri_cells HK8.out
              clear hst hgr ht3 hzl
              go_wp2_with fail
              go_roundw
              case rel => exact ⟨k + 1, _, by omega, by go_num, rfl, by rw [HE0.out, ← HZE.out]; exact ⟨HN.out, HBN.out, Nat.le_refl _, hle9⟩⟩
              case measure => simp [intOf]; omega
          · obtain ⟨m, hm⟩ : ∃ m, j = m + 1 := ⟨j - 1, by omega⟩
            have htz : decide (0 < j) = true := by simp only [decide_eq_true_eq]; omega
            have hjm : IntKind.i64.wrap ((j : Int) - 1) = (m : Int) := by rw [IntWalk.i64_in _ (by omega)]; omega
            have hm0 : (0 : Int) ≤ (m : Int) := by omega
            have hml : m < ys.length := by omega
            have hm1 : (m : Int) < (ys.length : Int) := by omega
            have hmj : m < j := by omega
            have HDJ : Hid (downK ys o j = if o < ordL (dAt ys m) then downK ys o m else m + 1) := by unfold Hid; rw [hm]; rfl
            have HQJ : Hid (downK ys o m = q → downK ys o m = q) := fun h => h
            obtain ⟨Ar, cr, hvr, _, _, Gr⟩ := RdT.of (E := elDomino) rfl (fun _ => rfl) (HA4.out.1.rd okDomino)
            obtain ⟨ad1, hA1, hbl1, r1, r2, r3⟩ := Gr.out m hml
            have hAe : A1 = Ar := by simp at hvr; exact hvr.1
            rw [hA1] at hAe
            subst hAe
            clear hvr Gr hA1
            have HDM : Hid (dAt ys m = (lx ys m, ly ys m, ld ys m)) := rfl
            have HOK := Lib.hid (HYS.out.ok hml)
            rw [HDM.out] at HOK
            have hOKM : domB (lx ys m) (ly ys m) (ld ys m) = true := HOK.out
            have hC1 := Lib.hid fun V => order_Z (lx ys m) (ly ys m) (ld ys m) V hOKM
            have HOM : Hid (ordL (dAt ys m) = domO (lx ys m).toNat (ly ys m).toNat (ld ys m)) := rfl
            rw [HOM.out] at HDJ
            have HEQ : Hid (dAt ys m = (lx ys m, ly ys m, ld ys m)) := rfl
            have hk2 := lt_of_block HK2.out
            have hp2 : (ad1.add (m * 3)).block < wr.heap.size := by rw [addBlock]; exact hbl1
            have HL2 := Lib.hid hk2; have HP2 := Lib.hid hp2
            have HS0 : Hid (PrevT wr wr vn x y d (ad1.add (m * 3)) (lx ys m) (ly ys m) (ld ys m)) := ⟨e1, e2, e3, r1, r2, r3, Nat.le_refl _, Below.refl _ _⟩
            clear HOM HOK hOKM HDM hk2 hp2
            generalize domO (lx ys m).toNat (ly ys m).toNat (ld ys m) = n1 at *
            generalize lx ys m = x2 at *
            generalize ly ys m = y2 at *
            generalize ld ys m = d2 at *
            by_cases hgt : o < n1
            · have hcmp : decide (o < n1) = true := by simpa using hgt
              have HJ2 : Hid (downK ys o m = q) := by unfold Hid; rw [← HJ.out, HDJ.out, if_pos hgt]
              clear hgt HDJ hm
              go_wp2_with fail
              go_region_held3 (fun w' => PrevT wr w' vn x y d (ad1.add (m * 3)) x2 y2 d2)
                (first
                  | exact HS0.out.drew
                  | exact PrevT.keep hb1 HL2.out HP2.out (by assumption))
                (first
                  | (go_at_call 136; (with_reducible refine (hC1.out _).mono ?_); rintro e w3 ⟨rfl, hb1⟩)
                  | (go_at_call 136; (with_reducible refine (hC2.out _).mono ?_); rintro e w3 ⟨rfl, hb1⟩))
              have HP3 := Lib.hid (show PrevT wr _ vn x y d (ad1.add (m * 3)) x2 y2 d2 from by assumption)
              have HB3 := Lib.hid (HB.out.trans (HP3.out.2.2.2.2.2.2.2.mono HB.out.size))
              clear e1 e2 e3 r1 r2 r3
              go_wp2_with fail
              go_roundw
              case rel => exact ⟨m, by omega, rfl, HJ2, HB3⟩
              case measure => simp [intOf]; omega
            · have hcmp : decide (o < n1) = false := by simpa using hgt
              have HQM : Hid (q = j) := by unfold Hid; rw [← HJ.out, HDJ.out, if_neg hgt, hm]
              clear hgt HDJ
              have HM1 := Lib.hid hm
              clear hm
              go_wp2_with fail
              go_region_held3 (fun w' => PrevT wr w' vn x y d (ad1.add (m * 3)) x2 y2 d2)
                (first
                  | exact HS0.out.drew
                  | exact PrevT.keep hb1 HL2.out HP2.out (by assumption))
                (first
                  | (go_at_call 136; (with_reducible refine (hC1.out _).mono ?_); rintro e w3 ⟨rfl, hb1⟩)
                  | (go_at_call 136; (with_reducible refine (hC2.out _).mono ?_); rintro e w3 ⟨rfl, hb1⟩))
              have HP3 := Lib.hid (show PrevT wr _ vn x y d (ad1.add (m * 3)) x2 y2 d2 from by assumption)
              clear e1 e2 e3 r1 r2 r3
              obtain ⟨e1, e2, e3, r1, r2, r3, _, hb3⟩ := HP3.out
              have HB3 := Lib.hid hb3
              clear hb3
              by_cases heq : (x2, y2, d2) = (x, y, d)
              · have HE1 : Hid (st (k + 1) = ys) := by
                  unfold Hid; rw [HE.out, HQM.out, if_pos]
                  rw [HM1.out]
                  simp only [Nat.add_sub_cancel, HEQ.out, heq]
                  simp
                simp only [Prod.mk.injEq] at heq
                obtain ⟨rfl, rfl, rfl⟩ := heq
                go_wp2_with fail
                go_quiet (fail)
                have HA9 := Lib.hid (HA4.out.below (HB3.out.trans (Drawn.below ⟨nq, rfl⟩ _)))
                go_wp2_with fail
                go_roundw
                case rel => exact ⟨k + 1, _, by omega, by go_num, rfl, by rw [HE1.out]; exact HA9⟩
                case measure => simp [intOf]; omega
              · have HE0 : Hid (st (k + 1) = ys.take j ++ (x, y, d) :: ys.drop j) := by
                  unfold Hid; rw [HE.out, HQM.out, if_neg]
                  rw [HM1.out]
                  simp only [Nat.add_sub_cancel, HEQ.out]
                  simpa using heq
                have hsq : ∀ W : World, Sem.run Try.prog (binOp .eql 46 (.agg #[.int .i64 x2, .int .i64 y2, .bool d2]) (.agg #[.int .i64 x, .int .i64 y, .bool d])) W = .ok (.bool false) W := fun W => by
                  by_cases h1 : x2 = x
                  · by_cases h2 : y2 = y
                    · have h3 : ¬ d2 = d := fun h => heq (by rw [h1, h2, h])
                      go_simp
                    · go_simp
                  · go_simp
                clear heq HE
                go_wp2_with fail
                go_quiet (fail)
                clear hsq
                obtain ⟨W6, HW6⟩ : ∃ W6, Hid (W6 = World.drewN w3 nq) := ⟨_, rfl⟩
                rw [← HW6.out]
                have HBW : Hid (Below wr.heap.size wr W6) := by unfold Hid; rw [HW6.out]; exact HB3.out.trans (Drawn.below ⟨_, rfl⟩ _)
                have HA6 := Lib.hid (HA4.out.below HBW.out)
                have HK6 := Lib.hid (blk_below HK2.out HBW.out)
                go_wp2_with (at_builtin; refine wpList_push okDomino rfl _ _ rfl HA6.out rfl (0, 0, false) _ rfl _ rfl rfl (by omega) ?_; intro v7 w7 HA7 HG7; obtain ⟨g7, c7, hv7, hgb7, hglt7⟩ := World.ownsRow.form HA7.out.1 (by simp); rw [List.length_append, List.length_singleton] at hv7; subst hv7)
                have hc7 : ys.length + 1 ≤ c7 := by
                  obtain ⟨A9, c9, hv9, q91, q92, _⟩ := HA7.out.1.rd okDomino
                  simp at hv9 q91
                  omega
                have hge : (0 : Int) ≤ (j : Int) + 1 := by omega
                have HK7 := Lib.hid (blk_grew HK6.out HG7.out HOB.out)
                by_cases hjl : j = ys.length
                · have hle : (j : Int) + 1 ≤ (ys.length : Int) + 1 := by omega
                  have hle' : (j : Int) ≤ (ys.length : Int) + 1 := by omega
                  have hmin : Nat.min (ys.length + 1 - j) (ys.length - j) = 0 := by show min _ _ = 0; omega
                  have HJL := Lib.hid hjl
                  clear hjl
                  refine wp_region_held_drew (S := fun _ => True) (by kernel_rfl) (by exact trivial) (fun hHeld => ?_)
                  refine wpAnyH_take (i := 0) (oi := ⟨_, _, _, _, _, _⟩) (v := ?vap29653q1n0) rfl (by kernel_rfl) (by kernel_rfl) (by kernel_rfl) (fun _ _ _ h => h) (Or.inl ⟨by rfl, ?hap29653q1n0⟩) (by assumption) ?_
                  case hap29653q1n0 => (intro w hSw; (try dsimp only at hSw); go_simp; try with_reducible rfl)
                  try simp only [Act.put, List.setIfInBounds_toArray, List.set_cons_zero, List.set_cons_succ]
                  refine wpAnyH_take (i := 1) (oi := ⟨_, _, _, _, _, _⟩) (v := ?vap29653q2n1) rfl (by kernel_rfl) (by kernel_rfl) (by kernel_rfl) (fun _ _ _ h => h) (Or.inl ⟨by rfl, ?hap29653q2n1⟩) (by assumption) ?_
                  case hap29653q2n1 => (intro w hSw; (try dsimp only at hSw); go_simp; try with_reducible rfl)
                  try simp only [Act.put, List.setIfInBounds_toArray, List.set_cons_zero, List.set_cons_succ]
                  refine wpAnyH_take (i := 2) (oi := ⟨_, _, _, _, _, _⟩) (v := ?vap29653q3n2) rfl (by kernel_rfl) (by kernel_rfl) (by kernel_rfl) (fun _ _ _ h => h) (Or.inl ⟨by rfl, ?hap29653q3n2⟩) (by assumption) ?_
                  case hap29653q3n2 => (intro w hSw; (try dsimp only at hSw); go_simp; try with_reducible rfl)
                  try simp only [Act.put, List.setIfInBounds_toArray, List.set_cons_zero, List.set_cons_succ]
                  refine wpAnyH_take (i := 3) (oi := ⟨_, _, _, _, _, _⟩) (v := ?vap29653q4n3) rfl (by kernel_rfl) (by kernel_rfl) (by kernel_rfl) (fun _ _ _ h => h) (Or.inl ⟨by rfl, ?hap29653q4n3⟩) (by assumption) ?_
                  case hap29653q4n3 => (intro w hSw; (try dsimp only at hSw); go_simp; try with_reducible rfl)
                  try simp only [Act.put, List.setIfInBounds_toArray, List.set_cons_zero, List.set_cons_succ]
                  refine wpAnyH_take (i := 4) (oi := ⟨_, _, _, _, _, _⟩) (v := ?vap29653q5n4) rfl (by kernel_rfl) (by kernel_rfl) (by kernel_rfl) (fun _ _ _ h => h) (Or.inl ⟨by rfl, ?hap29653q5n4⟩) (by assumption) ?_
                  case hap29653q5n4 => (intro w hSw; (try dsimp only at hSw); go_simp; try with_reducible rfl)
                  try simp only [Act.put, List.setIfInBounds_toArray, List.set_cons_zero, List.set_cons_succ]
                  refine wpAnyH_take (i := 5) (oi := ⟨_, _, _, _, _, _⟩) (v := ?vap29653q6n5) rfl (by kernel_rfl) (by kernel_rfl) (by kernel_rfl) (fun _ _ _ h => h) (Or.inl ⟨by rfl, ?hap29653q6n5⟩) (by assumption) ?_
                  case hap29653q6n5 => (intro w hSw; (try dsimp only at hSw); go_simp; try with_reducible rfl)
                  try simp only [Act.put, List.setIfInBounds_toArray, List.set_cons_zero, List.set_cons_succ]
                  refine wpAnyH_take (i := 6) (oi := ⟨_, _, _, _, _, _⟩) (v := ?vap29653q7n6) rfl (by kernel_rfl) (by kernel_rfl) (by kernel_rfl) (fun _ _ _ h => h) (Or.inl ⟨by rfl, ?hap29653q7n6⟩) (by assumption) ?_
                  case hap29653q7n6 => (intro w hSw; (try dsimp only at hSw); go_simp; try with_reducible rfl)
                  try simp only [Act.put, List.setIfInBounds_toArray, List.set_cons_zero, List.set_cons_succ]
                  refine wpAnyH_ready (rs := [7]) (by kernel_rfl) (by simp) ?_
                  refine AllReadyH.cons (o := ⟨_, _, _, _, _, _⟩) rfl (fun K hK => ?_) AllReadyH.nil
                  refine step_copyNone okDomino (by rfl) (.tmp 52) (.tmp 55) (by rfl) (by rfl) (by rfl) hmin ?_
                  refine hK.out _ _ (by exact trivial) (fun hHeld => ?_)
                  clear hK K
                  try simp only [Act.put, List.setIfInBounds_toArray, List.set_cons_zero, List.set_cons_succ]
                  refine wpAnyH_done (by kernel_rfl) ?_ _
                  obtain ⟨w8, HW8⟩ : ∃ w8, Hid (w8 = w7.drew) := ⟨_, rfl⟩
                  rw [← HW8.out]
                  obtain ⟨zs, HZS⟩ : ∃ zs, Hid (zs = ys ++ [((0, 0, false) : Lk)]) := ⟨_, rfl⟩
                  have HO8 : Hid (OwnF elDomino w8 w.heap.size (.slice (some ⟨g7, 0, none⟩) zs.length c7) zs) := by
                    unfold Hid; rw [HW8.out, HZS.out, List.length_append, List.length_singleton]
                    exact HA7.out.1
                  have HZL : Hid (zs.length = ys.length + 1) := by rw [HZS.out]; unfold Hid; simp
                  have HZE : Hid (zs.set j (x, y, d) = ys.take j ++ (x, y, d) :: ys.drop j) := by unfold Hid; rw [HZS.out, HJL.out]; simp
                  have HB8 : Hid (Below w.heap.size w w8) := by unfold Hid; rw [HW8.out]; exact HA7.out.2.1.trans (Drawn.below ⟨_, rfl⟩ _)
                  have HK8 := Lib.hid (show w8.heap[_]? = _ from (congrArg (fun q : World => q.heap[_]?) HW8.out).trans HK7.out.1)
                  have hzl : zs.length = ys.length + 1 := HZL.out
                  obtain ⟨c0, c1, c2, hfr, ht3⟩ := triStore okDomino rfl (fun _ => rfl) (cap := c7) (ls := zs) HO8.out (j := j) (by omega)
                  obtain ⟨hst, hgr⟩ := ht3 x y d
                  rw [List.length_set, hzl] at hst
                  have HBN := Lib.hid (HB8.out.grown hgr HB8.out.size (fun q hq => by obtain rfl := Option.some.inj hq; exact hgb7))
                  have hle9 := HBN.out.size
                  have HN := Lib.hid hst
                  have hj7 : (j : Int) < (ys.length : Int) + 1 := by omega
                  obtain ⟨h1, h2, h3⟩ := tri_cells HK8.out
                  clear hst hgr ht3 hzl
                  go_wp2_with fail
                  go_roundw
                  case rel => exact ⟨k + 1, _, by omega, by go_num, rfl, by rw [HE0.out, ← HZE.out]; exact ⟨HN.out, HBN.out, Nat.le_refl _, hle9⟩⟩
                  case measure => simp [intOf]; omega
                · have hle : (j : Int) + 1 ≤ (ys.length : Int) + 1 := by omega
                  have hle' : (j : Int) ≤ (ys.length : Int) + 1 := by omega
                  have hc8 : ¬ c7 = j + 1 := by omega
                  have hc9 : ¬ c7 = j := by omega
                  have hjlt : j < ys.length := by omega
                  clear hjl
                  refine wp_region_held_drew (S := fun _ => True) (by kernel_rfl) (by exact trivial) (fun hHeld => ?_)
                  refine wpAnyH_take (i := 0) (oi := ⟨_, _, _, _, _, _⟩) (v := ?vap29654q1n0) rfl (by kernel_rfl) (by kernel_rfl) (by kernel_rfl) (fun _ _ _ h => h) (Or.inl ⟨by rfl, ?hap29654q1n0⟩) (by assumption) ?_
                  case hap29654q1n0 => (intro w hSw; (try dsimp only at hSw); go_simp; try with_reducible rfl)
                  try simp only [Act.put, List.setIfInBounds_toArray, List.set_cons_zero, List.set_cons_succ]
                  refine wpAnyH_take (i := 1) (oi := ⟨_, _, _, _, _, _⟩) (v := ?vap29654q2n1) rfl (by kernel_rfl) (by kernel_rfl) (by kernel_rfl) (fun _ _ _ h => h) (Or.inl ⟨by rfl, ?hap29654q2n1⟩) (by assumption) ?_
                  case hap29654q2n1 => (intro w hSw; (try dsimp only at hSw); go_simp; try with_reducible rfl)
                  try simp only [Act.put, List.setIfInBounds_toArray, List.set_cons_zero, List.set_cons_succ]
                  refine wpAnyH_take (i := 2) (oi := ⟨_, _, _, _, _, _⟩) (v := ?vap29654q3n2) rfl (by kernel_rfl) (by kernel_rfl) (by kernel_rfl) (fun _ _ _ h => h) (Or.inl ⟨by rfl, ?hap29654q3n2⟩) (by assumption) ?_
                  case hap29654q3n2 => (intro w hSw; (try dsimp only at hSw); go_simp; try with_reducible rfl)
                  try simp only [Act.put, List.setIfInBounds_toArray, List.set_cons_zero, List.set_cons_succ]
                  refine wpAnyH_take (i := 3) (oi := ⟨_, _, _, _, _, _⟩) (v := ?vap29654q4n3) rfl (by kernel_rfl) (by kernel_rfl) (by kernel_rfl) (fun _ _ _ h => h) (Or.inl ⟨by rfl, ?hap29654q4n3⟩) (by assumption) ?_
                  case hap29654q4n3 => (intro w hSw; (try dsimp only at hSw); go_simp; try with_reducible rfl)
                  try simp only [Act.put, List.setIfInBounds_toArray, List.set_cons_zero, List.set_cons_succ]
                  refine wpAnyH_take (i := 4) (oi := ⟨_, _, _, _, _, _⟩) (v := ?vap29654q5n4) rfl (by kernel_rfl) (by kernel_rfl) (by kernel_rfl) (fun _ _ _ h => h) (Or.inl ⟨by rfl, ?hap29654q5n4⟩) (by assumption) ?_
                  case hap29654q5n4 => (intro w hSw; (try dsimp only at hSw); go_simp; try with_reducible rfl)
                  try simp only [Act.put, List.setIfInBounds_toArray, List.set_cons_zero, List.set_cons_succ]
                  refine wpAnyH_take (i := 5) (oi := ⟨_, _, _, _, _, _⟩) (v := ?vap29654q6n5) rfl (by kernel_rfl) (by kernel_rfl) (by kernel_rfl) (fun _ _ _ h => h) (Or.inl ⟨by rfl, ?hap29654q6n5⟩) (by assumption) ?_
                  case hap29654q6n5 => (intro w hSw; (try dsimp only at hSw); go_simp; try with_reducible rfl)
                  try simp only [Act.put, List.setIfInBounds_toArray, List.set_cons_zero, List.set_cons_succ]
                  refine wpAnyH_take (i := 6) (oi := ⟨_, _, _, _, _, _⟩) (v := ?vap29654q7n6) rfl (by kernel_rfl) (by kernel_rfl) (by kernel_rfl) (fun _ _ _ h => h) (Or.inl ⟨by rfl, ?hap29654q7n6⟩) (by assumption) ?_
                  case hap29654q7n6 => (intro w hSw; (try dsimp only at hSw); go_simp; try with_reducible rfl)
                  try simp only [Act.put, List.setIfInBounds_toArray, List.set_cons_zero, List.set_cons_succ]
                  refine wpAnyH_ready (rs := [7]) (by kernel_rfl) (by simp) ?_
                  refine AllReadyH.cons (o := ⟨_, _, _, _, _, _⟩) rfl (fun K hK => ?_) AllReadyH.nil
                  refine step_copyIn okDomino (by rfl) (.tmp 52) (.tmp 55) (by rfl) g7 c7 j (ys.length - j) _ _ w.heap.size ys (0, 0, false) (by rfl) (by rfl) (by rfl) (show OwnF _ w7.drew _ _ _ from HA7.out.1) hjlt ?_
                  intro w8 HO8 HG8
                  refine hK.out _ _ (by exact trivial) (fun hHeld => ?_)
                  clear hK K
                  try simp only [Act.put, List.setIfInBounds_toArray, List.set_cons_zero, List.set_cons_succ]
                  refine wpAnyH_done (by kernel_rfl) ?_ _
                  obtain ⟨zs, HZS⟩ : ∃ zs, Hid (zs = ys.take (j + 1) ++ ys.drop j) := ⟨_, rfl⟩
                  have HZL : Hid (zs.length = ys.length + 1) := by rw [HZS.out]; unfold Hid; simp; omega
                  have HO8 : Hid (OwnF elDomino w8 w.heap.size (.slice (some ⟨g7, 0, none⟩) zs.length c7) zs) := by
                    unfold Hid; rw [HZL.out, HZS.out]
                    exact HO8.out
                  have HZE : Hid (zs.set j (x, y, d) = ys.take j ++ (x, y, d) :: ys.drop j) := by unfold Hid; rw [HZS.out]; exact set_shift ys j (x, y, d) hjlt
                  have HB8 : Hid (Below w.heap.size w w8) := by
                    have h9 : Below w.heap.size w w7.drew := HA7.out.2.1.trans (Drawn.below ⟨_, rfl⟩ _)
                    exact h9.grown HG8.out h9.size (fun q hq => by obtain rfl := Option.some.inj hq; exact hgb7)
                  have HK8 := Lib.hid ((HG8.out.block _ (lt_of_block HK7.out.1) (fun e => HK7.out.2 g7 rfl (Option.some.inj e))).trans HK7.out.1)
                  have hzl : zs.length = ys.length + 1 := HZL.out
                  obtain ⟨c0, c1, c2, hfr, ht3⟩ := triStore okDomino rfl (fun _ => rfl) (cap := c7) (ls := zs) HO8.out (j := j) (by omega)
                  obtain ⟨hst, hgr⟩ := ht3 x y d
                  rw [List.length_set, hzl] at hst
                  have HBN := Lib.hid (HB8.out.grown hgr HB8.out.size (fun q hq => by obtain rfl := Option.some.inj hq; exact hgb7))
                  have hle9 := HBN.out.size
                  have HN := Lib.hid hst
                  have hj7 : (j : Int) < (ys.length : Int) + 1 := by omega
                  obtain ⟨h1, h2, h3⟩ := tri_cells HK8.out
                  clear hst hgr ht3 hzl
                  go_wp2_with fail
                  go_roundw
                  case rel => exact ⟨k + 1, _, by omega, by go_num, rfl, by rw [HE0.out, ← HZE.out]; exact ⟨HN.out, HBN.out, Nat.le_refl _, hle9⟩⟩
                  case measure => simp [intOf]; omega
    · obtain rfl : k = ls.length := by omega
      have ht : decide ((ls.length : Int) < (ls.length : Int)) = false := by simp
      go_wp2_with fail
      go_ret
      exact ⟨_, rfl, HA.out.1, HA.out.2.1⟩
end Go.Proofs.Ytehnbalbpfmijaa
