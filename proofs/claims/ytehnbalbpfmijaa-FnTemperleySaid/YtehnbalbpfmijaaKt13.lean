/- What the claim's walk rests on: parts SortI, L24H, OpenC, Outw, StpM. -/
import Derived.Test.YtehnbalbpfmijaaKt9
import Derived.Test.YtehnbalbpfmijaaKt12
import Derived.Test.YtehnbalbpfmijaaKt3
import Derived.Test.YtehnbalbpfmijaaKt10
import Derived.Deep.RegionHeld3
import Derived.Deep.RegionLaw
import Derived.Deep.DeepCutAuto
import Derived.Deep.LoopGhost
namespace Go.Proofs.Ytehnbalbpfmijaa
open Go.RowKit
set_option linter.unusedVariables false

theorem tri_cells {w : World} {a : Nat} {x y : Int} {d : Bool} {t : TypeId} (h : w.heap[a]? = some (triO x y d t)) : w.cell? ⟨a, 0, none⟩ = some (.int .i64 x) ∧ w.cell? ⟨a, 1, none⟩ = some (.int .i64 y) ∧ w.cell? ⟨a, 2, none⟩ = some (.bool d) :=
  ⟨by rw [blk_cell h]; rfl, by rw [blk_cell h]; rfl, by rw [blk_cell h]; rfl⟩
theorem blk_grew {W6 w7 : World} {v v' : Value} {a : Nat} {o : Obj} (h : W6.heap[a]? = some o) (hG : Grew W6 w7 v v') (hob : ∀ g, v.ownBlock = some g → g < a) : w7.heap[a]? = some o ∧ ∀ g, v'.ownBlock = some g → a ≠ g := by
  obtain ⟨g1, g, g2, g3, g4⟩ := hG
  have hl := lt_of_block h
  refine ⟨(g1.block a hl fun e => by have := hob a e.symm; omega).trans h, fun k hk => ?_⟩
  rw [g2] at hk
  obtain rfl := Option.some.inj hk
  rcases g3 with g3 | g3
  · have := hob _ g3; omega
  · omega
theorem set_shift {α : Type} (ys : List α) (j : Nat) (z : α) (h : j < ys.length) : (ys.take (j + 1) ++ ys.drop j).set j z = ys.take j ++ z :: ys.drop j := by
  have e : ys.take (j + 1) = ys.take j ++ [ys[j]] := by rw [List.take_succ_eq_append_getElem h]
  have hl : (ys.take j).length = j := by simp; omega
  rw [e, List.append_assoc, List.set_append_right _ _ (by omega), hl, Nat.sub_self]
  rfl
set_option maxRecDepth 100000 in
set_option maxHeartbeats 4000000 in
theorem SortDominoes_any (v : Value) (ls : List Lk) (B : Nat) (w : World) (h : RdF elDomino w B v ls) (hB : B ≤ w.heap.size) :
    Calls Try.prog 75 #[v] w fun e w' => ∃ u, e = .returned u ∧ OwnF elDomino w' w.heap.size u (sortI ls ls.length) ∧ Below w.heap.size w w' := by
  obtain ⟨A, c, rfl, g1, g2, G3⟩ := RdT.of (E := elDomino) rfl (fun _ => rfl) h
  unfold maxLen at g2
  clear h
  have HA0 : Hid (Acc elDomino w w.heap.size (w.alloc (.cells #[] 46)) (.slice (some ⟨w.heap.size, 0, none⟩) 0 0) []) := Acc.start w
  have HSS := Lib.hid (sort_same ls)
  have HSI : Hid (∀ k, sortI ls (k + 1) = if domL (dAt ls k) then insI (dAt ls k) (sortI ls k) else sortI ls k) := fun k => rfl
  have HS0 : Hid (sortI ls 0 = []) := rfl
  obtain ⟨st, HST⟩ : ∃ st, Hid (st = sortI ls) := ⟨_, rfl⟩
  rw [← HST.out] at HSI HS0 ⊢
  have HSR : Hid (∀ k, Sorted (st k)) := fun k => by rw [HST.out]; exact (HSS.out k).2
  clear HST HSS
  go_enter Try.func75, Try.ntmps75
  go_wp2_with fail
  go_loopw [3, 10] (fun o i wr => ∃ (k : Nat) (u : Value), k ≤ ls.length ∧ i = .int .i64 k ∧ u = o ∧ Hid (Acc elDomino w w.heap.size wr u (st k))) (fun _ i _ => ls.length - (intOf i).toNat)
  case atStart => exact ⟨0, _, Nat.zero_le _, rfl, rfl, by rw [HS0.out]; exact HA0⟩
  case round =>
    obtain ⟨k, u, hk, rfl, rfl, HA⟩ := hrel
    obtain ⟨A1, ca, hv, q1, q2, _⟩ := HA.out.1.rd okDomino
    subst hv
    unfold maxLen at q2
    by_cases hlt : k < ls.length
    · have ht : decide ((k : Int) < (ls.length : Int)) = true := by simp only [decide_eq_true_eq]; omega
      obtain ⟨ad, rfl, hbl, hx, hy, hz⟩ := G3.out k hlt
      have hbl2 : (ad.add (k * 3)).block < w.heap.size := by rw [addBlock]; omega
      have hbw := HA.out.2.1
      have hx' := (hbw.cell (p := ad.add (k * 3)) hbl2).trans hx
      have hy' := (hbw.cell (p := ⟨(ad.add (k * 3)).block, (ad.add (k * 3)).off + 1, none⟩) hbl2).trans hy
      have hz' := (hbw.cell (p := ⟨(ad.add (k * 3)).block, (ad.add (k * 3)).off + 2, none⟩) hbl2).trans hz
      have HNX := Lib.hid (HSI.out k)
      have HYS := Lib.hid (HSR.out k)
      have hshort := (HSR.out k).short
      have HDA : Hid (dAt ls k = (lx ls k, ly ls k, ld ls k)) := rfl
      rw [HDA.out] at HNX
      have hk0 : (0 : Int) ≤ (k : Int) := by omega
      have hk1 : (k : Int) < (ls.length : Int) := by omega
      generalize lx ls k = x at *
      generalize ly ls k = y at *
      generalize ld ls k = d at *
      obtain ⟨ys, HYQ⟩ : ∃ ys, Hid (st k = ys) := ⟨_, rfl⟩
      rw [HYQ.out] at HA HNX HYS hshort q1 ⊢
      clear hx hy hz hbw HDA HYQ
      go_wp2_with fail
      obtain ⟨V, hV, k1, hbV⟩ := one_alloc wr (triO x y d 46)
      rw [← hV]
      obtain ⟨vn, hvn⟩ : ∃ vn, wr.heap.size = vn := ⟨_, rfl⟩
      rw [hvn] at k1 ⊢
      have HA2 := Lib.hid (HA.out.below hbV)
      have HK0 := Lib.hid k1
      have HOB : Hid (∀ g, (Value.slice A1 ys.length ca).ownBlock = some g → g < vn) := fun g hg => by rw [← hvn]; exact (HA.out.1.lt g hg).2
      clear hV k1 hbV hx' hy' hz' hvn
      refine (DominoOk_any x y d _).mono ?_
      rintro e w1 ⟨rfl, hb1⟩
      have HK1 := Lib.hid (blk_below HK0.out hb1)
      have HA3 := Lib.hid (HA2.out.below hb1)
      clear hb1
      obtain ⟨f1, f2, f3⟩ := tri_cells HK1.out
      cases hd : domB x y d
      · have HE : Hid (st (k + 1) = ys) := by unfold Hid; rw [HNX.out, if_neg (by simp [domL, hd])]
        clear HNX hd
        go_wp2_with fail
        go_roundw
        case rel => exact ⟨k + 1, _, by omega, by go_num, rfl, by rw [HE.out]; exact HA3⟩
        case measure => simp [intOf]; omega
      · have HE : Hid (st (k + 1) = insI (x, y, d) ys) := by unfold Hid; rw [HNX.out, if_pos (by simp [domL, hd])]
        have HD := Lib.hid hd
        clear HNX
        have hC2 := Lib.hid fun V => order_Z x y d V hd
        have HIN : Hid (insI (x, y, d) ys = if decide (0 < downK ys (domO x.toNat y.toNat d) ys.length) && (dAt ys (downK ys (domO x.toNat y.toNat d) ys.length - 1) == (x, y, d)) then ys else ys.take (downK ys (domO x.toNat y.toNat d) ys.length) ++ (x, y, d) :: ys.drop (downK ys (domO x.toNat y.toNat d) ys.length)) := rfl
        generalize domO x.toNat y.toNat d = o at *
        obtain ⟨q, HQ⟩ : ∃ q, Hid (downK ys o ys.length = q) := ⟨_, rfl⟩
        rw [HQ.out] at HIN
        rw [HIN.out] at HE
        clear hd HIN
        go_wp2_with fail
        go_loopw [6] (fun s wr2 => ∃ j : Nat, j ≤ ys.length ∧ s = .int .i64 j ∧ Hid (downK ys o j = q) ∧ Hid (Below w1.heap.size w1 wr2)) (fun s _ => (intOf s).toNat)
        case atStart => exact ⟨ys.length, Nat.le_refl _, rfl, HQ, Below.refl _ _⟩
        case round =>
          obtain ⟨j, hj, rfl, HJ, HB⟩ := hrel
          have HA4 := Lib.hid (HA3.out.below HB.out)
          have HK2 := Lib.hid (blk_below HK1.out HB.out)
          obtain ⟨e1, e2, e3⟩ := tri_cells HK2.out
          clear f1 f2 f3
          have hj0 : (0 : Int) ≤ (j : Int) := by omega
          have hw1 : IntKind.i64.wrap ((j : Int) + 1) = (j : Int) + 1 := IntWalk.i64_in _ (by omega)
          have hn1 : ((j : Int) + 1).toNat = j + 1 := by omega
          by_cases hjz : j = 0
          · have hq0 : q = 0 := by subst hjz; exact HJ.out.symm
            have HE0 : Hid (st (k + 1) = ys.take j ++ (x, y, d) :: ys.drop j) := by unfold Hid; rw [HE.out, hq0, hjz]; simp
            have htz : decide (0 < j) = false := by simp only [decide_eq_false_iff_not]; omega
            clear HE hq0 hjz
            go_wp2_with fail
            go_quiet (fail)
            obtain ⟨W5, HW5⟩ : ∃ W5, Hid (W5 = wr.drewN nq) := ⟨_, rfl⟩
            rw [← HW5.out]
            go_wp2_with fail
            go_quiet (fail)
            obtain ⟨W6, HW6⟩ : ∃ W6, Hid (W6 = W5.drewN nq) := ⟨_, rfl⟩
            rw [← HW6.out]
            have HBW : Hid (Below wr.heap.size wr W6) := by unfold Hid; rw [HW6.out, HW5.out]; exact (Drawn.below ⟨_, rfl⟩ _).trans ((Drawn.below ⟨_, rfl⟩ _))
            have HA6 := Lib.hid (HA4.out.below HBW.out)
            have HK6 := Lib.hid (blk_below HK2.out HBW.out)
            go_wp2_with (at_builtin; refine wpList_push okDomino rfl _ _ rfl HA6.out rfl (0, 0, false) _ rfl _ rfl rfl (by omega) ?_; intro v7 w7 HA7 HG7; obtain ⟨g7, c7, hv7, hgb7, hglt7⟩ := World.ownsRow.form HA7.out.1 (by simp); rw [List.length_append, List.length_singleton] at hv7; subst hv7)
            have hc7 : ys.length + 1 ≤ c7 := by
              obtain ⟨A9, c9, hv9, q91, q92, _⟩ := HA7.out.1.rd okDomino
              simp at hv9 q91
              omega
            have hge : (0 : Int) ≤ (j : Int) + 1 := by omega
            have HK7 := Lib.hid (blk_grew HK6.out HG7.out HOB.out)
            by_cases hjl : j = ys.length
            · have hle : (j : Int) + 1 ≤ (ys.length : Int) + 1 := by omega
              have hle' : (j : Int) ≤ (ys.length : Int) + 1 := by omega
              have hmin : Nat.min (ys.length + 1 - j) (ys.length - j) = 0 := by show min _ _ = 0; omega
              have HJL := Lib.hid hjl
              clear hjl
              refine wp_region_held_drew (S := fun _ => True) (by kernel_rfl) (by exact trivial) (fun hHeld => ?_)
              refine wpAnyH_take (i := 0) (oi := ⟨_, _, _, _, _, _⟩) (v := ?vap29651q1n0) rfl (by kernel_rfl) (by kernel_rfl) (by kernel_rfl) (fun _ _ _ h => h) (Or.inl ⟨by rfl, ?hap29651q1n0⟩) (by assumption) ?_
              case hap29651q1n0 => (intro w hSw; (try dsimp only at hSw); go_simp; try with_reducible rfl)
              try simp only [Act.put, List.setIfInBounds_toArray, List.set_cons_zero, List.set_cons_succ]
              refine wpAnyH_take (i := 1) (oi := ⟨_, _, _, _, _, _⟩) (v := ?vap29651q2n1) rfl (by kernel_rfl) (by kernel_rfl) (by kernel_rfl) (fun _ _ _ h => h) (Or.inl ⟨by rfl, ?hap29651q2n1⟩) (by assumption) ?_
              case hap29651q2n1 => (intro w hSw; (try dsimp only at hSw); go_simp; try with_reducible rfl)
              try simp only [Act.put, List.setIfInBounds_toArray, List.set_cons_zero, List.set_cons_succ]
              refine wpAnyH_take (i := 2) (oi := ⟨_, _, _, _, _, _⟩) (v := ?vap29651q3n2) rfl (by kernel_rfl) (by kernel_rfl) (by kernel_rfl) (fun _ _ _ h => h) (Or.inl ⟨by rfl, ?hap29651q3n2⟩) (by assumption) ?_
              case hap29651q3n2 => (intro w hSw; (try dsimp only at hSw); go_simp; try with_reducible rfl)
              try simp only [Act.put, List.setIfInBounds_toArray, List.set_cons_zero, List.set_cons_succ]
              refine wpAnyH_take (i := 3) (oi := ⟨_, _, _, _, _, _⟩) (v := ?vap29651q4n3) rfl (by kernel_rfl) (by kernel_rfl) (by kernel_rfl) (fun _ _ _ h => h) (Or.inl ⟨by rfl, ?hap29651q4n3⟩) (by assumption) ?_
              case hap29651q4n3 => (intro w hSw; (try dsimp only at hSw); go_simp; try with_reducible rfl)
              try simp only [Act.put, List.setIfInBounds_toArray, List.set_cons_zero, List.set_cons_succ]
              refine wpAnyH_take (i := 4) (oi := ⟨_, _, _, _, _, _⟩) (v := ?vap29651q5n4) rfl (by kernel_rfl) (by kernel_rfl) (by kernel_rfl) (fun _ _ _ h => h) (Or.inl ⟨by rfl, ?hap29651q5n4⟩) (by assumption) ?_
              case hap29651q5n4 => (intro w hSw; (try dsimp only at hSw); go_simp; try with_reducible rfl)
              try simp only [Act.put, List.setIfInBounds_toArray, List.set_cons_zero, List.set_cons_succ]
              refine wpAnyH_take (i := 5) (oi := ⟨_, _, _, _, _, _⟩) (v := ?vap29651q6n5) rfl (by kernel_rfl) (by kernel_rfl) (by kernel_rfl) (fun _ _ _ h => h) (Or.inl ⟨by rfl, ?hap29651q6n5⟩) (by assumption) ?_
              case hap29651q6n5 => (intro w hSw; (try dsimp only at hSw); go_simp; try with_reducible rfl)
              try simp only [Act.put, List.setIfInBounds_toArray, List.set_cons_zero, List.set_cons_succ]
              refine wpAnyH_take (i := 6) (oi := ⟨_, _, _, _, _, _⟩) (v := ?vap29651q7n6) rfl (by kernel_rfl) (by kernel_rfl) (by kernel_rfl) (fun _ _ _ h => h) (Or.inl ⟨by rfl, ?hap29651q7n6⟩) (by assumption) ?_
              case hap29651q7n6 => (intro w hSw; (try dsimp only at hSw); go_simp; try with_reducible rfl)
              try simp only [Act.put, List.setIfInBounds_toArray, List.set_cons_zero, List.set_cons_succ]
              refine wpAnyH_ready (rs := [7]) (by kernel_rfl) (by simp) ?_
              refine AllReadyH.cons (o := ⟨_, _, _, _, _, _⟩) rfl (fun K hK => ?_) AllReadyH.nil
              refine step_copyNone okDomino (by rfl) (.tmp 52) (.tmp 55) (by rfl) (by rfl) (by rfl) hmin ?_
              refine hK.out _ _ (by exact trivial) (fun hHeld => ?_)
              clear hK K
              try simp only [Act.put, List.setIfInBounds_toArray, List.set_cons_zero, List.set_cons_succ]
              refine wpAnyH_done (by kernel_rfl) ?_ _
              obtain ⟨w8, HW8⟩ : ∃ w8, Hid (w8 = w7.drew) := ⟨_, rfl⟩
              rw [← HW8.out]
              obtain ⟨zs, HZS⟩ : ∃ zs, Hid (zs = ys ++ [((0, 0, false) : Lk)]) := ⟨_, rfl⟩
              have HO8 : Hid (OwnF elDomino w8 w.heap.size (.slice (some ⟨g7, 0, none⟩) zs.length c7) zs) := by
                unfold Hid; rw [HW8.out, HZS.out, List.length_append, List.length_singleton]
                exact HA7.out.1
              have HZL : Hid (zs.length = ys.length + 1) := by rw [HZS.out]; unfold Hid; simp
              have HZE : Hid (zs.set j (x, y, d) = ys.take j ++ (x, y, d) :: ys.drop j) := by unfold Hid; rw [HZS.out, HJL.out]; simp
              have HB8 : Hid (Below w.heap.size w w8) := by unfold Hid; rw [HW8.out]; exact HA7.out.2.1.trans (Drawn.below ⟨_, rfl⟩ _)
              have HK8 := Lib.hid (show w8.heap[_]? = _ from (congrArg (fun q : World => q.heap[_]?) HW8.out).trans HK7.out.1)
              have hzl : zs.length = ys.length + 1 := HZL.out
              obtain ⟨c0, c1, c2, hfr, ht3⟩ := triStore okDomino rfl (fun _ => rfl) (cap := c7) (ls := zs) HO8.out (j := j) (by omega)
              obtain ⟨hst, hgr⟩ := ht3 x y d
              rw [List.length_set, hzl] at hst
              have HBN := Lib.hid (HB8.out.grown hgr HB8.out.size (fun q hq => by obtain rfl := Option.some.inj hq; exact hgb7))
              have hle9 := HBN.out.size
              have HN := Lib.hid hst
              have hj7 : (j : Int) < (ys.length : Int) + 1 := by omega
              obtain ⟨h1, h2, h3⟩ := tri_cells HK8.out
              clear hst hgr ht3 hzl
              go_wp2_with fail
              go_roundw
              case rel => exact ⟨k + 1, _, by omega, by go_num, rfl, by rw [HE0.out, ← HZE.out]; exact ⟨HN.out, HBN.out, Nat.le_refl _, hle9⟩⟩
              case measure => simp [intOf]; omega
            · have hle : (j : Int) + 1 ≤ (ys.length : Int) + 1 := by omega
              have hle' : (j : Int) ≤ (ys.length : Int) + 1 := by omega
              have hc8 : ¬ c7 = j + 1 := by omega
              have hc9 : ¬ c7 = j := by omega
              have hjlt : j < ys.length := by omega
              clear hjl
              refine wp_region_held_drew (S := fun _ => True) (by kernel_rfl) (by exact trivial) (fun hHeld => ?_)
              refine wpAnyH_take (i := 0) (oi := ⟨_, _, _, _, _, _⟩) (v := ?vap29652q1n0) rfl (by kernel_rfl) (by kernel_rfl) (by kernel_rfl) (fun _ _ _ h => h) (Or.inl ⟨by rfl, ?hap29652q1n0⟩) (by assumption) ?_
              case hap29652q1n0 => (intro w hSw; (try dsimp only at hSw); go_simp; try with_reducible rfl)
              try simp only [Act.put, List.setIfInBounds_toArray, List.set_cons_zero, List.set_cons_succ]
              refine wpAnyH_take (i := 1) (oi := ⟨_, _, _, _, _, _⟩) (v := ?vap29652q2n1) rfl (by kernel_rfl) (by kernel_rfl) (by kernel_rfl) (fun _ _ _ h => h) (Or.inl ⟨by rfl, ?hap29652q2n1⟩) (by assumption) ?_
              case hap29652q2n1 => (intro w hSw; (try dsimp only at hSw); go_simp; try with_reducible rfl)
              try simp only [Act.put, List.setIfInBounds_toArray, List.set_cons_zero, List.set_cons_succ]
              refine wpAnyH_take (i := 2) (oi := ⟨_, _, _, _, _, _⟩) (v := ?vap29652q3n2) rfl (by kernel_rfl) (by kernel_rfl) (by kernel_rfl) (fun _ _ _ h => h) (Or.inl ⟨by rfl, ?hap29652q3n2⟩) (by assumption) ?_
              case hap29652q3n2 => (intro w hSw; (try dsimp only at hSw); go_simp; try with_reducible rfl)
              try simp only [Act.put, List.setIfInBounds_toArray, List.set_cons_zero, List.set_cons_succ]
              refine wpAnyH_take (i := 3) (oi := ⟨_, _, _, _, _, _⟩) (v := ?vap29652q4n3) rfl (by kernel_rfl) (by kernel_rfl) (by kernel_rfl) (fun _ _ _ h => h) (Or.inl ⟨by rfl, ?hap29652q4n3⟩) (by assumption) ?_
              case hap29652q4n3 => (intro w hSw; (try dsimp only at hSw); go_simp; try with_reducible rfl)
              try simp only [Act.put, List.setIfInBounds_toArray, List.set_cons_zero, List.set_cons_succ]
              refine wpAnyH_take (i := 4) (oi := ⟨_, _, _, _, _, _⟩) (v := ?vap29652q5n4) rfl (by kernel_rfl) (by kernel_rfl) (by kernel_rfl) (fun _ _ _ h => h) (Or.inl ⟨by rfl, ?hap29652q5n4⟩) (by assumption) ?_
              case hap29652q5n4 => (intro w hSw; (try dsimp only at hSw); go_simp; try with_reducible rfl)
              try simp only [Act.put, List.setIfInBounds_toArray, List.set_cons_zero, List.set_cons_succ]
              refine wpAnyH_take (i := 5) (oi := ⟨_, _, _, _, _, _⟩) (v := ?vap29652q6n5) rfl (by kernel_rfl) (by kernel_rfl) (by kernel_rfl) (fun _ _ _ h => h) (Or.inl ⟨by rfl, ?hap29652q6n5⟩) (by assumption) ?_
              case hap29652q6n5 => (intro w hSw; (try dsimp only at hSw); go_simp; try with_reducible rfl)
              try simp only [Act.put, List.setIfInBounds_toArray, List.set_cons_zero, List.set_cons_succ]
              refine wpAnyH_take (i := 6) (oi := ⟨_, _, _, _, _, _⟩) (v := ?vap29652q7n6) rfl (by kernel_rfl) (by kernel_rfl) (by kernel_rfl) (fun _ _ _ h => h) (Or.inl ⟨by rfl, ?hap29652q7n6⟩) (by assumption) ?_
              case hap29652q7n6 => (intro w hSw; (try dsimp only at hSw); go_simp; try with_reducible rfl)
              try simp only [Act.put, List.setIfInBounds_toArray, List.set_cons_zero, List.set_cons_succ]
              refine wpAnyH_ready (rs := [7]) (by kernel_rfl) (by simp) ?_
              refine AllReadyH.cons (o := ⟨_, _, _, _, _, _⟩) rfl (fun K hK => ?_) AllReadyH.nil
              refine step_copyIn okDomino (by rfl) (.tmp 52) (.tmp 55) (by rfl) g7 c7 j (ys.length - j) _ _ w.heap.size ys (0, 0, false) (by rfl) (by rfl) (by rfl) (show OwnF _ w7.drew _ _ _ from HA7.out.1) hjlt ?_
              intro w8 HO8 HG8
              refine hK.out _ _ (by exact trivial) (fun hHeld => ?_)
              clear hK K
              try simp only [Act.put, List.setIfInBounds_toArray, List.set_cons_zero, List.set_cons_succ]
              refine wpAnyH_done (by kernel_rfl) ?_ _
              obtain ⟨zs, HZS⟩ : ∃ zs, Hid (zs = ys.take (j + 1) ++ ys.drop j) := ⟨_, rfl⟩
              have HZL : Hid (zs.length = ys.length + 1) := by rw [HZS.out]; unfold Hid; simp; omega
              have HO8 : Hid (OwnF elDomino w8 w.heap.size (.slice (some ⟨g7, 0, none⟩) zs.length c7) zs) := by
                unfold Hid; rw [HZL.out, HZS.out]
                exact HO8.out
              have HZE : Hid (zs.set j (x, y, d) = ys.take j ++ (x, y, d) :: ys.drop j) := by unfold Hid; rw [HZS.out]; exact set_shift ys j (x, y, d) hjlt
              have HB8 : Hid (Below w.heap.size w w8) := by
                have h9 : Below w.heap.size w w7.drew := HA7.out.2.1.trans (Drawn.below ⟨_, rfl⟩ _)
                exact h9.grown HG8.out h9.size (fun q hq => by obtain rfl := Option.some.inj hq; exact hgb7)
              have HK8 := Lib.hid ((HG8.out.block _ (lt_of_block HK7.out.1) (fun e => HK7.out.2 g7 rfl (Option.some.inj e))).trans HK7.out.1)
              have hzl : zs.length = ys.length + 1 := HZL.out
              obtain ⟨c0, c1, c2, hfr, ht3⟩ := triStore okDomino rfl (fun _ => rfl) (cap := c7) (ls := zs) HO8.out (j := j) (by omega)
              obtain ⟨hst, hgr⟩ := ht3 x y d
              rw [List.length_set, hzl] at hst
              have HBN := Lib.hid (HB8.out.grown hgr HB8.out.size (fun q hq => by obtain rfl := Option.some.inj hq; exact hgb7))
              have hle9 := HBN.out.size
              have HN := Lib.hid hst
              have hj7 : (j : Int) < (ys.length : Int) + 1 := by omega
              obtain ⟨h1, h2, h3⟩ := tri_cells HK8.out
              clear hst hgr ht3 hzl
              go_wp2_with fail
              go_roundw
              case rel => exact ⟨k + 1, _, by omega, by go_num, rfl, by rw [HE0.out, ← HZE.out]; exact ⟨HN.out, HBN.out, Nat.le_refl _, hle9⟩⟩
              case measure => simp [intOf]; omega
          · obtain ⟨m, hm⟩ : ∃ m, j = m + 1 := ⟨j - 1, by omega⟩
            have htz : decide (0 < j) = true := by simp only [decide_eq_true_eq]; omega
            have hjm : IntKind.i64.wrap ((j : Int) - 1) = (m : Int) := by rw [IntWalk.i64_in _ (by omega)]; omega
            have hm0 : (0 : Int) ≤ (m : Int) := by omega
            have hml : m < ys.length := by omega
            have hm1 : (m : Int) < (ys.length : Int) := by omega
            have hmj : m < j := by omega
            have HDJ : Hid (downK ys o j = if o < ordL (dAt ys m) then downK ys o m else m + 1) := by unfold Hid; rw [hm]; rfl
            have HQJ : Hid (downK ys o m = q → downK ys o m = q) := fun h => h
            obtain ⟨Ar, cr, hvr, _, _, Gr⟩ := RdT.of (E := elDomino) rfl (fun _ => rfl) (HA4.out.1.rd okDomino)
            obtain ⟨ad1, hA1, hbl1, r1, r2, r3⟩ := Gr.out m hml
            have hAe : A1 = Ar := by simp at hvr; exact hvr.1
            rw [hA1] at hAe
            subst hAe
            clear hvr Gr hA1
            have HDM : Hid (dAt ys m = (lx ys m, ly ys m, ld ys m)) := rfl
            have HOK := Lib.hid (HYS.out.ok hml)
            rw [HDM.out] at HOK
            have hOKM : domB (lx ys m) (ly ys m) (ld ys m) = true := HOK.out
            have hC1 := Lib.hid fun V => order_Z (lx ys m) (ly ys m) (ld ys m) V hOKM
            have HOM : Hid (ordL (dAt ys m) = domO (lx ys m).toNat (ly ys m).toNat (ld ys m)) := rfl
            rw [HOM.out] at HDJ
            have HEQ : Hid (dAt ys m = (lx ys m, ly ys m, ld ys m)) := rfl
            have hk2 := lt_of_block HK2.out
            have hp2 : (ad1.add (m * 3)).block < wr.heap.size := by rw [addBlock]; exact hbl1
            have HL2 := Lib.hid hk2; have HP2 := Lib.hid hp2
            have HS0 : Hid (PrevT wr wr vn x y d (ad1.add (m * 3)) (lx ys m) (ly ys m) (ld ys m)) := ⟨e1, e2, e3, r1, r2, r3, Nat.le_refl _, Below.refl _ _⟩
            clear HOM HOK hOKM HDM hk2 hp2
            generalize domO (lx ys m).toNat (ly ys m).toNat (ld ys m) = n1 at *
            generalize lx ys m = x2 at *
            generalize ly ys m = y2 at *
            generalize ld ys m = d2 at *
            by_cases hgt : o < n1
            · have hcmp : decide (o < n1) = true := by simpa using hgt
              have HJ2 : Hid (downK ys o m = q) := by unfold Hid; rw [← HJ.out, HDJ.out, if_pos hgt]
              clear hgt HDJ hm
              go_wp2_with fail
              go_region_held3 (fun w' => PrevT wr w' vn x y d (ad1.add (m * 3)) x2 y2 d2)
                (first
                  | exact HS0.out.drew
                  | exact PrevT.keep hb1 HL2.out HP2.out (by assumption))
                (first
                  | (go_at_call 136; (with_reducible refine (hC1.out _).mono ?_); rintro e w3 ⟨rfl, hb1⟩)
                  | (go_at_call 136; (with_reducible refine (hC2.out _).mono ?_); rintro e w3 ⟨rfl, hb1⟩))
              have HP3 := Lib.hid (show PrevT wr _ vn x y d (ad1.add (m * 3)) x2 y2 d2 from by assumption)
              have HB3 := Lib.hid (HB.out.trans (HP3.out.2.2.2.2.2.2.2.mono HB.out.size))
              clear e1 e2 e3 r1 r2 r3
              go_wp2_with fail
              go_roundw
              case rel => exact ⟨m, by omega, rfl, HJ2, HB3⟩
              case measure => simp [intOf]; omega
            · have hcmp : decide (o < n1) = false := by simpa using hgt
              have HQM : Hid (q = j) := by unfold Hid; rw [← HJ.out, HDJ.out, if_neg hgt, hm]
              clear hgt HDJ
              have HM1 := Lib.hid hm
              clear hm
              go_wp2_with fail
              go_region_held3 (fun w' => PrevT wr w' vn x y d (ad1.add (m * 3)) x2 y2 d2)
                (first
                  | exact HS0.out.drew
                  | exact PrevT.keep hb1 HL2.out HP2.out (by assumption))
                (first
                  | (go_at_call 136; (with_reducible refine (hC1.out _).mono ?_); rintro e w3 ⟨rfl, hb1⟩)
                  | (go_at_call 136; (with_reducible refine (hC2.out _).mono ?_); rintro e w3 ⟨rfl, hb1⟩))
              have HP3 := Lib.hid (show PrevT wr _ vn x y d (ad1.add (m * 3)) x2 y2 d2 from by assumption)
              clear e1 e2 e3 r1 r2 r3
              obtain ⟨e1, e2, e3, r1, r2, r3, _, hb3⟩ := HP3.out
              have HB3 := Lib.hid hb3
              clear hb3
              by_cases heq : (x2, y2, d2) = (x, y, d)
              · have HE1 : Hid (st (k + 1) = ys) := by
                  unfold Hid; rw [HE.out, HQM.out, if_pos]
                  rw [HM1.out]
                  simp only [Nat.add_sub_cancel, HEQ.out, heq]
                  simp
                simp only [Prod.mk.injEq] at heq
                obtain ⟨rfl, rfl, rfl⟩ := heq
                go_wp2_with fail
                go_quiet (fail)
                have HA9 := Lib.hid (HA4.out.below (HB3.out.trans (Drawn.below ⟨nq, rfl⟩ _)))
                go_wp2_with fail
                go_roundw
                case rel => exact ⟨k + 1, _, by omega, by go_num, rfl, by rw [HE1.out]; exact HA9⟩
                case measure => simp [intOf]; omega
              · have HE0 : Hid (st (k + 1) = ys.take j ++ (x, y, d) :: ys.drop j) := by
                  unfold Hid; rw [HE.out, HQM.out, if_neg]
                  rw [HM1.out]
                  simp only [Nat.add_sub_cancel, HEQ.out]
                  simpa using heq
                have hsq : ∀ W : World, Sem.run Try.prog (binOp .eql 46 (.agg #[.int .i64 x2, .int .i64 y2, .bool d2]) (.agg #[.int .i64 x, .int .i64 y, .bool d])) W = .ok (.bool false) W := fun W => by
                  by_cases h1 : x2 = x
                  · by_cases h2 : y2 = y
                    · have h3 : ¬ d2 = d := fun h => heq (by rw [h1, h2, h])
                      go_simp
                    · go_simp
                  · go_simp
                clear heq HE
                go_wp2_with fail
                go_quiet (fail)
                clear hsq
                obtain ⟨W6, HW6⟩ : ∃ W6, Hid (W6 = World.drewN w3 nq) := ⟨_, rfl⟩
                rw [← HW6.out]
                have HBW : Hid (Below wr.heap.size wr W6) := by unfold Hid; rw [HW6.out]; exact HB3.out.trans (Drawn.below ⟨_, rfl⟩ _)
                have HA6 := Lib.hid (HA4.out.below HBW.out)
                have HK6 := Lib.hid (blk_below HK2.out HBW.out)
                go_wp2_with (at_builtin; refine wpList_push okDomino rfl _ _ rfl HA6.out rfl (0, 0, false) _ rfl _ rfl rfl (by omega) ?_; intro v7 w7 HA7 HG7; obtain ⟨g7, c7, hv7, hgb7, hglt7⟩ := World.ownsRow.form HA7.out.1 (by simp); rw [List.length_append, List.length_singleton] at hv7; subst hv7)
                have hc7 : ys.length + 1 ≤ c7 := by
                  obtain ⟨A9, c9, hv9, q91, q92, _⟩ := HA7.out.1.rd okDomino
                  simp at hv9 q91
                  omega
                have hge : (0 : Int) ≤ (j : Int) + 1 := by omega
                have HK7 := Lib.hid (blk_grew HK6.out HG7.out HOB.out)
                by_cases hjl : j = ys.length
                · have hle : (j : Int) + 1 ≤ (ys.length : Int) + 1 := by omega
                  have hle' : (j : Int) ≤ (ys.length : Int) + 1 := by omega
                  have hmin : Nat.min (ys.length + 1 - j) (ys.length - j) = 0 := by show min _ _ = 0; omega
                  have HJL := Lib.hid hjl
                  clear hjl
                  refine wp_region_held_drew (S := fun _ => True) (by kernel_rfl) (by exact trivial) (fun hHeld => ?_)
                  refine wpAnyH_take (i := 0) (oi := ⟨_, _, _, _, _, _⟩) (v := ?vap29653q1n0) rfl (by kernel_rfl) (by kernel_rfl) (by kernel_rfl) (fun _ _ _ h => h) (Or.inl ⟨by rfl, ?hap29653q1n0⟩) (by assumption) ?_
                  case hap29653q1n0 => (intro w hSw; (try dsimp only at hSw); go_simp; try with_reducible rfl)
                  try simp only [Act.put, List.setIfInBounds_toArray, List.set_cons_zero, List.set_cons_succ]
                  refine wpAnyH_take (i := 1) (oi := ⟨_, _, _, _, _, _⟩) (v := ?vap29653q2n1) rfl (by kernel_rfl) (by kernel_rfl) (by kernel_rfl) (fun _ _ _ h => h) (Or.inl ⟨by rfl, ?hap29653q2n1⟩) (by assumption) ?_
                  case hap29653q2n1 => (intro w hSw; (try dsimp only at hSw); go_simp; try with_reducible rfl)
                  try simp only [Act.put, List.setIfInBounds_toArray, List.set_cons_zero, List.set_cons_succ]
                  refine wpAnyH_take (i := 2) (oi := ⟨_, _, _, _, _, _⟩) (v := ?vap29653q3n2) rfl (by kernel_rfl) (by kernel_rfl) (by kernel_rfl) (fun _ _ _ h => h) (Or.inl ⟨by rfl, ?hap29653q3n2⟩) (by assumption) ?_
                  case hap29653q3n2 => (intro w hSw; (try dsimp only at hSw); go_simp; try with_reducible rfl)
                  try simp only [Act.put, List.setIfInBounds_toArray, List.set_cons_zero, List.set_cons_succ]
                  refine wpAnyH_take (i := 3) (oi := ⟨_, _, _, _, _, _⟩) (v := ?vap29653q4n3) rfl (by kernel_rfl) (by kernel_rfl) (by kernel_rfl) (fun _ _ _ h => h) (Or.inl ⟨by rfl, ?hap29653q4n3⟩) (by assumption) ?_
                  case hap29653q4n3 => (intro w hSw; (try dsimp only at hSw); go_simp; try with_reducible rfl)
                  try simp only [Act.put, List.setIfInBounds_toArray, List.set_cons_zero, List.set_cons_succ]
                  refine wpAnyH_take (i := 4) (oi := ⟨_, _, _, _, _, _⟩) (v := ?vap29653q5n4) rfl (by kernel_rfl) (by kernel_rfl) (by kernel_rfl) (fun _ _ _ h => h) (Or.inl ⟨by rfl, ?hap29653q5n4⟩) (by assumption) ?_
                  case hap29653q5n4 => (intro w hSw; (try dsimp only at hSw); go_simp; try with_reducible rfl)
                  try simp only [Act.put, List.setIfInBounds_toArray, List.set_cons_zero, List.set_cons_succ]
                  refine wpAnyH_take (i := 5) (oi := ⟨_, _, _, _, _, _⟩) (v := ?vap29653q6n5) rfl (by kernel_rfl) (by kernel_rfl) (by kernel_rfl) (fun _ _ _ h => h) (Or.inl ⟨by rfl, ?hap29653q6n5⟩) (by assumption) ?_
                  case hap29653q6n5 => (intro w hSw; (try dsimp only at hSw); go_simp; try with_reducible rfl)
                  try simp only [Act.put, List.setIfInBounds_toArray, List.set_cons_zero, List.set_cons_succ]
                  refine wpAnyH_take (i := 6) (oi := ⟨_, _, _, _, _, _⟩) (v := ?vap29653q7n6) rfl (by kernel_rfl) (by kernel_rfl) (by kernel_rfl) (fun _ _ _ h => h) (Or.inl ⟨by rfl, ?hap29653q7n6⟩) (by assumption) ?_
                  case hap29653q7n6 => (intro w hSw; (try dsimp only at hSw); go_simp; try with_reducible rfl)
                  try simp only [Act.put, List.setIfInBounds_toArray, List.set_cons_zero, List.set_cons_succ]
                  refine wpAnyH_ready (rs := [7]) (by kernel_rfl) (by simp) ?_
                  refine AllReadyH.cons (o := ⟨_, _, _, _, _, _⟩) rfl (fun K hK => ?_) AllReadyH.nil
                  refine step_copyNone okDomino (by rfl) (.tmp 52) (.tmp 55) (by rfl) (by rfl) (by rfl) hmin ?_
                  refine hK.out _ _ (by exact trivial) (fun hHeld => ?_)
                  clear hK K
                  try simp only [Act.put, List.setIfInBounds_toArray, List.set_cons_zero, List.set_cons_succ]
                  refine wpAnyH_done (by kernel_rfl) ?_ _
                  obtain ⟨w8, HW8⟩ : ∃ w8, Hid (w8 = w7.drew) := ⟨_, rfl⟩
                  rw [← HW8.out]
                  obtain ⟨zs, HZS⟩ : ∃ zs, Hid (zs = ys ++ [((0, 0, false) : Lk)]) := ⟨_, rfl⟩
                  have HO8 : Hid (OwnF elDomino w8 w.heap.size (.slice (some ⟨g7, 0, none⟩) zs.length c7) zs) := by
                    unfold Hid; rw [HW8.out, HZS.out, List.length_append, List.length_singleton]
                    exact HA7.out.1
                  have HZL : Hid (zs.length = ys.length + 1) := by rw [HZS.out]; unfold Hid; simp
                  have HZE : Hid (zs.set j (x, y, d) = ys.take j ++ (x, y, d) :: ys.drop j) := by unfold Hid; rw [HZS.out, HJL.out]; simp
                  have HB8 : Hid (Below w.heap.size w w8) := by unfold Hid; rw [HW8.out]; exact HA7.out.2.1.trans (Drawn.below ⟨_, rfl⟩ _)
                  have HK8 := Lib.hid (show w8.heap[_]? = _ from (congrArg (fun q : World => q.heap[_]?) HW8.out).trans HK7.out.1)
                  have hzl : zs.length = ys.length + 1 := HZL.out
                  obtain ⟨c0, c1, c2, hfr, ht3⟩ := triStore okDomino rfl (fun _ => rfl) (cap := c7) (ls := zs) HO8.out (j := j) (by omega)
                  obtain ⟨hst, hgr⟩ := ht3 x y d
                  rw [List.length_set, hzl] at hst
                  have HBN := Lib.hid (HB8.out.grown hgr HB8.out.size (fun q hq => by obtain rfl := Option.some.inj hq; exact hgb7))
                  have hle9 := HBN.out.size
                  have HN := Lib.hid hst
                  have hj7 : (j : Int) < (ys.length : Int) + 1 := by omega
                  obtain ⟨h1, h2, h3⟩ := tri_cells HK8.out
                  clear hst hgr ht3 hzl
                  go_wp2_with fail
                  go_roundw
                  case rel => exact ⟨k + 1, _, by omega, by go_num, rfl, by rw [HE0.out, ← HZE.out]; exact ⟨HN.out, HBN.out, Nat.le_refl _, hle9⟩⟩
                  case measure => simp [intOf]; omega
                · have hle : (j : Int) + 1 ≤ (ys.length : Int) + 1 := by omega
                  have hle' : (j : Int) ≤ (ys.length : Int) + 1 := by omega
                  have hc8 : ¬ c7 = j + 1 := by omega
                  have hc9 : ¬ c7 = j := by omega
                  have hjlt : j < ys.length := by omega
                  clear hjl
                  refine wp_region_held_drew (S := fun _ => True) (by kernel_rfl) (by exact trivial) (fun hHeld => ?_)
                  refine wpAnyH_take (i := 0) (oi := ⟨_, _, _, _, _, _⟩) (v := ?vap29654q1n0) rfl (by kernel_rfl) (by kernel_rfl) (by kernel_rfl) (fun _ _ _ h => h) (Or.inl ⟨by rfl, ?hap29654q1n0⟩) (by assumption) ?_
                  case hap29654q1n0 => (intro w hSw; (try dsimp only at hSw); go_simp; try with_reducible rfl)
                  try simp only [Act.put, List.setIfInBounds_toArray, List.set_cons_zero, List.set_cons_succ]
                  refine wpAnyH_take (i := 1) (oi := ⟨_, _, _, _, _, _⟩) (v := ?vap29654q2n1) rfl (by kernel_rfl) (by kernel_rfl) (by kernel_rfl) (fun _ _ _ h => h) (Or.inl ⟨by rfl, ?hap29654q2n1⟩) (by assumption) ?_
                  case hap29654q2n1 => (intro w hSw; (try dsimp only at hSw); go_simp; try with_reducible rfl)
                  try simp only [Act.put, List.setIfInBounds_toArray, List.set_cons_zero, List.set_cons_succ]
                  refine wpAnyH_take (i := 2) (oi := ⟨_, _, _, _, _, _⟩) (v := ?vap29654q3n2) rfl (by kernel_rfl) (by kernel_rfl) (by kernel_rfl) (fun _ _ _ h => h) (Or.inl ⟨by rfl, ?hap29654q3n2⟩) (by assumption) ?_
                  case hap29654q3n2 => (intro w hSw; (try dsimp only at hSw); go_simp; try with_reducible rfl)
                  try simp only [Act.put, List.setIfInBounds_toArray, List.set_cons_zero, List.set_cons_succ]
                  refine wpAnyH_take (i := 3) (oi := ⟨_, _, _, _, _, _⟩) (v := ?vap29654q4n3) rfl (by kernel_rfl) (by kernel_rfl) (by kernel_rfl) (fun _ _ _ h => h) (Or.inl ⟨by rfl, ?hap29654q4n3⟩) (by assumption) ?_
                  case hap29654q4n3 => (intro w hSw; (try dsimp only at hSw); go_simp; try with_reducible rfl)
                  try simp only [Act.put, List.setIfInBounds_toArray, List.set_cons_zero, List.set_cons_succ]
                  refine wpAnyH_take (i := 4) (oi := ⟨_, _, _, _, _, _⟩) (v := ?vap29654q5n4) rfl (by kernel_rfl) (by kernel_rfl) (by kernel_rfl) (fun _ _ _ h => h) (Or.inl ⟨by rfl, ?hap29654q5n4⟩) (by assumption) ?_
                  case hap29654q5n4 => (intro w hSw; (try dsimp only at hSw); go_simp; try with_reducible rfl)
                  try simp only [Act.put, List.setIfInBounds_toArray, List.set_cons_zero, List.set_cons_succ]
                  refine wpAnyH_take (i := 5) (oi := ⟨_, _, _, _, _, _⟩) (v := ?vap29654q6n5) rfl (by kernel_rfl) (by kernel_rfl) (by kernel_rfl) (fun _ _ _ h => h) (Or.inl ⟨by rfl, ?hap29654q6n5⟩) (by assumption) ?_
                  case hap29654q6n5 => (intro w hSw; (try dsimp only at hSw); go_simp; try with_reducible rfl)
                  try simp only [Act.put, List.setIfInBounds_toArray, List.set_cons_zero, List.set_cons_succ]
                  refine wpAnyH_take (i := 6) (oi := ⟨_, _, _, _, _, _⟩) (v := ?vap29654q7n6) rfl (by kernel_rfl) (by kernel_rfl) (by kernel_rfl) (fun _ _ _ h => h) (Or.inl ⟨by rfl, ?hap29654q7n6⟩) (by assumption) ?_
                  case hap29654q7n6 => (intro w hSw; (try dsimp only at hSw); go_simp; try with_reducible rfl)
                  try simp only [Act.put, List.setIfInBounds_toArray, List.set_cons_zero, List.set_cons_succ]
                  refine wpAnyH_ready (rs := [7]) (by kernel_rfl) (by simp) ?_
                  refine AllReadyH.cons (o := ⟨_, _, _, _, _, _⟩) rfl (fun K hK => ?_) AllReadyH.nil
                  refine step_copyIn okDomino (by rfl) (.tmp 52) (.tmp 55) (by rfl) g7 c7 j (ys.length - j) _ _ w.heap.size ys (0, 0, false) (by rfl) (by rfl) (by rfl) (show OwnF _ w7.drew _ _ _ from HA7.out.1) hjlt ?_
                  intro w8 HO8 HG8
                  refine hK.out _ _ (by exact trivial) (fun hHeld => ?_)
                  clear hK K
                  try simp only [Act.put, List.setIfInBounds_toArray, List.set_cons_zero, List.set_cons_succ]
                  refine wpAnyH_done (by kernel_rfl) ?_ _
                  obtain ⟨zs, HZS⟩ : ∃ zs, Hid (zs = ys.take (j + 1) ++ ys.drop j) := ⟨_, rfl⟩
                  have HZL : Hid (zs.length = ys.length + 1) := by rw [HZS.out]; unfold Hid; simp; omega
                  have HO8 : Hid (OwnF elDomino w8 w.heap.size (.slice (some ⟨g7, 0, none⟩) zs.length c7) zs) := by
                    unfold Hid; rw [HZL.out, HZS.out]
                    exact HO8.out
                  have HZE : Hid (zs.set j (x, y, d) = ys.take j ++ (x, y, d) :: ys.drop j) := by unfold Hid; rw [HZS.out]; exact set_shift ys j (x, y, d) hjlt
                  have HB8 : Hid (Below w.heap.size w w8) := by
                    have h9 : Below w.heap.size w w7.drew := HA7.out.2.1.trans (Drawn.below ⟨_, rfl⟩ _)
                    exact h9.grown HG8.out h9.size (fun q hq => by obtain rfl := Option.some.inj hq; exact hgb7)
                  have HK8 := Lib.hid ((HG8.out.block _ (lt_of_block HK7.out.1) (fun e => HK7.out.2 g7 rfl (Option.some.inj e))).trans HK7.out.1)
                  have hzl : zs.length = ys.length + 1 := HZL.out
                  obtain ⟨c0, c1, c2, hfr, ht3⟩ := triStore okDomino rfl (fun _ => rfl) (cap := c7) (ls := zs) HO8.out (j := j) (by omega)
                  obtain ⟨hst, hgr⟩ := ht3 x y d
                  rw [List.length_set, hzl] at hst
                  have HBN := Lib.hid (HB8.out.grown hgr HB8.out.size (fun q hq => by obtain rfl := Option.some.inj hq; exact hgb7))
                  have hle9 := HBN.out.size
                  have HN := Lib.hid hst
                  have hj7 : (j : Int) < (ys.length : Int) + 1 := by omega
                  obtain ⟨h1, h2, h3⟩ := tri_cells HK8.out
                  clear hst hgr ht3 hzl
                  go_wp2_with fail
                  go_roundw
                  case rel => exact ⟨k + 1, _, by omega, by go_num, rfl, by rw [HE0.out, ← HZE.out]; exact ⟨HN.out, HBN.out, Nat.le_refl _, hle9⟩⟩
                  case measure => simp [intOf]; omega
    · obtain rfl : k = ls.length := by omega
      have ht : decide ((ls.length : Int) < (ls.length : Int)) = false := by simp
      go_wp2_with fail
      go_ret
      exact ⟨_, rfl, HA.out.1, HA.out.2.1⟩
end Go.Proofs.Ytehnbalbpfmijaa

namespace Go.Proofs.Ytehnbalbpfmijaa
open Go.RowKit
set_option linter.unusedVariables false

set_option maxRecDepth 100000 in
set_option maxHeartbeats 2000000 in
theorem l24Has_any (ls : List Lk) (v : Value) (cx cy : Int) (h1 : -10 ≤ cx ∧ cx ≤ 100) (h2 : -10 ≤ cy ∧ cy ≤ 100) (hl : ∀ l ∈ ls, (0 ≤ l.1 ∧ l.1 ≤ 4) ∧ 0 ≤ l.2.1 ∧ l.2.1 ≤ 4) (B : Nat) (w : World) (hu : RdF elLink w B v ls) (hB : B ≤ w.heap.size) :
    Calls Try.prog 148 #[v, spotV cx cy] w fun e w' => e = .returned (.bool (decide ((cx, cy) ∈ ls.map lkC))) ∧ Below w.heap.size w w' := by
  obtain ⟨A, c, rfl, g1, g2, G3⟩ := RdT.of (E := elLink) rfl (fun _ => rfl) hu
  unfold maxLen at g2
  obtain ⟨h10, h11⟩ := h1
  obtain ⟨h20, h21⟩ := h2
  obtain ⟨r, HR⟩ : ∃ r, Hid (decide ((cx, cy) ∈ ls.map lkC) = r) := ⟨_, rfl⟩
  rw [HR.out]
  obtain ⟨W, hW, k0, hbW⟩ := one_alloc w (.cells #[.int .i64 cx, .int .i64 cy] 44)
  have HW := Lib.hid hW
  have HK0 := Lib.hid k0
  have HBW := Lib.hid hbW
  have HL := Lib.hid hl
  clear hu hW k0 hbW hl
  go_enter Try.func148, Try.ntmps148
  go_wp2_with fail
  rw [← HW.out]
  go_loopw [5] (fun s wr => ∃ k : Nat, k ≤ ls.length ∧ s = .int .i64 (k : Int) ∧ Hid (Below W.heap.size W wr) ∧ Hid (∀ j, j < k → lkC (dAt ls j) ≠ (cx, cy))) (fun s _ => ls.length - (intOf s).toNat)
  case atStart => exact ⟨0, Nat.zero_le _, rfl, Below.refl _ _, fun j hj => by omega⟩
  case round =>
    obtain ⟨k, hk, rfl, HB, HN⟩ := hrel
    by_cases hlt : k < ls.length
    · have ht : decide ((k : Int) < (ls.length : Int)) = true := by simp only [decide_eq_true_eq]; omega
      obtain ⟨ad, rfl, hbl, hx, hy, hz⟩ := G3.out k hlt
      have hbw := HBW.out.trans (HB.out.mono HBW.out.size)
      have hbl2 : (ad.add (k * 3)).block < w.heap.size := by rw [addBlock]; omega
      have hx' := (hbw.cell (p := ad.add (k * 3)) hbl2).trans hx
      have hy' := (hbw.cell (p := ⟨(ad.add (k * 3)).block, (ad.add (k * 3)).off + 1, none⟩) hbl2).trans hy
      have hz' := (hbw.cell (p := ⟨(ad.add (k * 3)).block, (ad.add (k * 3)).off + 2, none⟩) hbl2).trans hz
      have hk0 : (0 : Int) ≤ (k : Int) := by omega
      have hk1 : (k : Int) < (ls.length : Int) := by omega
      obtain ⟨⟨hx0, hx1⟩, hy0, hy1⟩ := HL.out _ (List.getElem_mem hlt)
      rw [← dAt_get ls k hlt] at hx0 hx1 hy0 hy1
      have HIN : Hid (lkC (dAt ls k) = (cx, cy) → true = r) := fun h => by
        rw [← HR.out]
        symm
        rw [decide_eq_true_iff]
        exact List.mem_map.2 ⟨dAt ls k, by rw [dAt_get ls k hlt]; exact List.getElem_mem hlt, h⟩
      have HN2 : Hid (lkC (dAt ls k) ≠ (cx, cy) → ∀ j, j < k + 1 → lkC (dAt ls j) ≠ (cx, cy)) := fun h j hj => by
        rcases Nat.lt_succ_iff_lt_or_eq.1 hj with hj | rfl
        · exact HN.out j hj
        · exact h
      have HD : Hid (dAt ls k = (lx ls k, ly ls k, ld ls k)) := rfl
      rw [HD.out] at HIN HN2
      have hx0 : 0 ≤ lx ls k := hx0
      have hx1 : lx ls k ≤ 4 := hx1
      have hy0 : 0 ≤ ly ls k := hy0
      have hy1 : ly ls k ≤ 4 := hy1
      clear hx hy hz hbw HN HD
      generalize lx ls k = x at *
      generalize ly ls k = y at *
      generalize ld ls k = d at *
      go_upto_region 5 with (fail)
      obtain ⟨V1, hV1, kV1, bV1⟩ := one_alloc wr (triO x y d 68)
      rw [← hV1]
      obtain ⟨n9, hn9⟩ : ∃ n9, wr.heap.size = n9 := ⟨_, rfl⟩
      have HB1 := Lib.hid (HB.out.trans (bV1.mono HB.out.size))
      rw [hn9] at kV1 ⊢
      obtain ⟨f0, f1, f2⟩ := tri_cells kV1
      have c0 : V1.cell? ⟨w.heap.size, 0, none⟩ = some (.int .i64 cx) := by rw [blk_cell (blk_below HK0.out HB1.out)]; rfl
      have c1 : V1.cell? ⟨w.heap.size, 1, none⟩ = some (.int .i64 cy) := by rw [blk_cell (blk_below HK0.out HB1.out)]; rfl
      have HBN := Lib.hid (HBW.out.trans (HB1.out.mono HBW.out.size))
      clear hV1 kV1 bV1 hn9 hx' hy' hz'
      cases d
      · by_cases e1 : cx = 2 * x + 1
        · by_cases e2 : cy = 2 * y
          · have HT := Lib.hid (HIN.out (by rw [e1, e2]; rfl))
            subst e1 e2
            go_wp2_with fail
            go_ret
            exact ⟨ret_bool HT.out, HBN.out⟩
          · have HM := Lib.hid (HN2.out (fun h => e2 (by simp [lkC] at h; omega)))
            have t1 : (cx == 2 * x + 1) = true := by rw [beq_iff_eq]; exact e1
            have t2 : (cy == 2 * y) = false := by rw [beq_eq_false_iff_ne]; exact e2
            clear e1 e2 HIN HN2
            go_wp2_with fail
            go_roundw
            case rel => exact ⟨k + 1, by omega, by go_num, HB1, HM⟩
            case measure => simp [intOf]; omega
        · have HM := Lib.hid (HN2.out (fun h => e1 (by simp [lkC] at h; omega)))
          have t1 : (cx == 2 * x + 1) = false := by rw [beq_eq_false_iff_ne]; exact e1
          clear e1 HIN HN2
          go_wp2_with fail
          go_roundw
          case rel => exact ⟨k + 1, by omega, by go_num, HB1, HM⟩
          case measure => simp [intOf]; omega
      · by_cases e1 : cx = 2 * x
        · by_cases e2 : cy = 2 * y + 1
          · have HT := Lib.hid (HIN.out (by rw [e1, e2]; rfl))
            subst e1 e2
            go_wp2_with fail
            go_ret
            exact ⟨ret_bool HT.out, HBN.out⟩
          · have HM := Lib.hid (HN2.out (fun h => e2 (by simp [lkC] at h; omega)))
            have t1 : (cx == 2 * x) = true := by rw [beq_iff_eq]; exact e1
            have t2 : (cy == 2 * y + 1) = false := by rw [beq_eq_false_iff_ne]; exact e2
            clear e1 e2 HIN HN2
            go_wp2_with fail
            go_roundw
            case rel => exact ⟨k + 1, by omega, by go_num, HB1, HM⟩
            case measure => simp [intOf]; omega
        · have HM := Lib.hid (HN2.out (fun h => e1 (by simp [lkC] at h; omega)))
          have t1 : (cx == 2 * x) = false := by rw [beq_eq_false_iff_ne]; exact e1
          clear e1 HIN HN2
          go_wp2_with fail
          go_roundw
          case rel => exact ⟨k + 1, by omega, by go_num, HB1, HM⟩
          case measure => simp [intOf]; omega
    · obtain rfl : k = ls.length := by omega
      have ht : decide ((ls.length : Int) < (ls.length : Int)) = false := by simp
      have HF : Hid (false = r) := by
        unfold Hid
        rw [← HR.out]
        symm
        rw [decide_eq_false_iff_not]
        intro hm
        obtain ⟨l, hl, e⟩ := List.mem_map.1 hm
        obtain ⟨j, hj, rfl⟩ := List.mem_iff_getElem.1 hl
        exact HN.out j hj (by rw [dAt_get ls j hj]; exact e)
      have HBN := Lib.hid (HBW.out.trans (HB.out.mono HBW.out.size))
      go_wp2_with fail
      go_ret
      exact ⟨ret_bool HF.out, HBN.out⟩
end Go.Proofs.Ytehnbalbpfmijaa

namespace Go.Proofs.Ytehnbalbpfmijaa
open Go.RowKit
set_option linter.unusedVariables false

set_option maxRecDepth 100000 in
theorem openC_any (ls : List Lk) (v : Value) (cx cy : Int) (h1 : 0 ≤ cx ∧ cx ≤ 100) (h2 : 0 ≤ cy ∧ cy ≤ 100) (nB B : Nat) (w : World) (hu : RdF elLink w B v ls) (hB : B ≤ w.heap.size) (hbox : w.heap[nB]? = some (.cells #[v] 53 (0, 0))) :
    Calls Try.prog 153 #[spotV cx cy, .pointer (some ⟨nB, 0, none⟩)] w fun e w' => e = .returned (.bool (openB ls (cx, cy))) ∧ Below w.heap.size w w' := by
  have HU := Lib.hid hu
  obtain ⟨A, c, rfl, g1, g2, _⟩ := hu
  unfold maxLen at g2
  obtain ⟨h10, h11⟩ := h1
  obtain ⟨h20, h21⟩ := h2
  obtain ⟨W, hW, k0, k1, hb⟩ := two_alloc w (.cells #[.int .i64 cx, .int .i64 cy] 44) (triO (cx / 2) (cy / 2) (cy % 2 == 1) 68)
  have HW := Lib.hid hW
  have HB := Lib.hid hb
  have hbx : W.cell? ⟨nB, 0, none⟩ = some (.slice A ls.length c) := by rw [blk_cell (blk_below hbox hb)]; rfl
  obtain ⟨f0, f1, f2⟩ := tri_cells k1
  have HUB := Lib.hid (HU.out.below (hb.mono hB))
  have HE : Hid (decide (fstZ (lkEq ls (cx / 2) (cy / 2) (cy % 2 == 1)) ls.length 0 < 0) = openB ls (cx, cy)) := rfl
  clear hW hb k0 k1 hbox
  go_enter Try.func153, Try.ntmps153
  go_upto_region 2 with (fail)
  rw [← HW.out]
  go_wp2_with fail
  refine (linkIndex_any _ ls _ _ _ _ _ HUB.out (Nat.le_trans hB HB.out.size)).mono ?_
  rintro e w1 ⟨rfl, hb1⟩
  have HB1 := Lib.hid (HB.out.trans (hb1.mono HB.out.size))
  clear hb1 f0 f1 f2 hbx
  go_wp2_with fail
  go_ret
  exact ⟨ret_bool HE.out, HB1.out⟩
end Go.Proofs.Ytehnbalbpfmijaa

namespace Go.Proofs.Ytehnbalbpfmijaa
open Go.RowKit
set_option linter.unusedVariables false

def bRow (n : Nat) (kn : Nat → Bool) : Array Value := ((List.range n).map fun k => Value.bool (kn k)).toArray
def cRow (n : Nat) (cs : Nat → Int × Int) : Array Value := ((List.range (n * 2)).map fun k => Value.int .i64 (if k % 2 = 0 then (cs (k / 2)).1 else (cs (k / 2)).2)).toArray
theorem bRow_get {n : Nat} {kn : Nat → Bool} {k : Nat} (hk : k < n) : (bRow n kn)[k]? = some (.bool (kn k)) := by simp [bRow, hk]
theorem cRow_get {n : Nat} {cs : Nat → Int × Int} {k : Nat} (hk : k < n) : (cRow n cs)[k * 2]? = some (.int .i64 (cs k).1) ∧ (cRow n cs)[k * 2 + 1]? = some (.int .i64 (cs k).2) := by
  have h1 : k * 2 < n * 2 := by omega
  have h2 : k * 2 + 1 < n * 2 := by omega
  have e1 : k * 2 % 2 = 0 := by omega
  have e2 : k * 2 / 2 = k := by omega
  have e3 : (k * 2 + 1) % 2 = 1 := by omega
  have e4 : (k * 2 + 1) / 2 = k := by omega
  constructor
  · simp [cRow, h1, e1, e2]
  · simp [cRow, h2, e3, e4]
theorem bRow_set {n : Nat} {kn : Nat → Bool} {k : Nat} (hk : k < n) : (bRow n kn).setIfInBounds k (.bool true) = bRow n (updB kn k) := by
  apply Array.ext
  · simp [bRow]
  · intro i h1 h2
    have hi : i < n := by simpa [bRow] using h2
    rw [Array.getElem_setIfInBounds (by simpa [bRow] using hi)]
    by_cases e : k = i
    · subst e; simp [bRow, updB]
    · have e' : ¬ i = k := fun q => e q.symm
      simp [bRow, updB, e, e']
theorem cRow_set {n : Nat} {cs : Nat → Int × Int} {k : Nat} (hk : k < n) (x y : Int) : ((cRow n cs).setIfInBounds (k * 2) (.int .i64 x)).setIfInBounds (k * 2 + 1) (.int .i64 y) = cRow n (updC cs k (x, y)) := by
  apply Array.ext
  · simp [cRow]
  · intro i h1 h2
    have hi : i < n * 2 := by simpa [cRow] using h2
    rw [Array.getElem_setIfInBounds (by simpa [cRow] using hi), Array.getElem_setIfInBounds (by simpa [cRow] using hi)]
    by_cases e : k * 2 + 1 = i
    · subst e
      have e3 : (k * 2 + 1) % 2 = 1 := by omega
      have e4 : (k * 2 + 1) / 2 = k := by omega
      simp [cRow, updC, e3, e4]
    · by_cases e2 : k * 2 = i
      · subst e2
        have e3 : k * 2 % 2 = 0 := by omega
        have e4 : k * 2 / 2 = k := by omega
        simp [cRow, updC, e3, e4]
      · have e3 : ¬ i / 2 = k := by omega
        simp [cRow, updC, e, e2, e3]
theorem bRow_made (n : Nat) : madeCells #[.bool false] n = bRow n fun _ => false := by
  apply Array.ext
  · simp [madeCells, bRow]
  · intro i h1 h2
    have hi : i < n := by simpa [bRow] using h2
    simp [madeCells, bRow, Nat.mod_one]
theorem cRow_made (n : Nat) : madeCells #[.int .i64 0, .int .i64 0] (n * 2) = cRow n fun _ => (0, 0) := by
  apply Array.ext
  · simp [madeCells, cRow]
  · intro i h1 h2
    have hi : i < n * 2 := by simpa [cRow] using h2
    rcases Nat.mod_two_eq_zero_or_one i with e | e <;> simp [madeCells, cRow, e]
/-- The blocks of the search. -/
structure OMem (w wr : World) (gO gK : Nat) (v : Value) (F : Nat) (kn : Nat → Bool) (cs : Nat → Int × Int) : Prop where
  box : wr.heap[w.heap.size]? = some (.cells #[v] 53 (0, 0))
  out : wr.heap[gO]? = some (.cells (cRow F cs) 44 (0, 0))
  kno : wr.heap[gK]? = some (.cells (bRow F kn) 4 (0, 0))
  ne : gO ≠ gK ∧ w.heap.size < gO ∧ w.heap.size < gK
  big : Below w.heap.size w wr
theorem OMem.below {w wr w1 : World} {gO gK : Nat} {v : Value} {F : Nat} {kn : Nat → Bool} {cs : Nat → Int × Int} (h : OMem w wr gO gK v F kn cs) (hb : Below wr.heap.size wr w1) : OMem w w1 gO gK v F kn cs :=
  ⟨blk_below h.box hb, blk_below h.out hb, blk_below h.kno hb, h.ne, h.big.trans (hb.mono h.big.size)⟩
theorem OMem.set {w wr : World} {gO gK : Nat} {v : Value} {F : Nat} {kn : Nat → Bool} {cs : Nat → Int × Int} (h : OMem w wr gO gK v F kn cs) {k : Nat} (hk : k < F) (x y : Int) :
    OMem w (((wr.setCell ⟨gO, k * 2, none⟩ (.int .i64 x)).setCell ⟨gO, k * 2 + 1, none⟩ (.int .i64 y)).setCell ⟨gK, k, none⟩ (.bool true)) gO gK v F (updB kn k) (updC cs k (x, y)) := by
  obtain ⟨h1, h2, h3⟩ := h.ne
  refine ⟨?_, ?_, ?_, h.ne, ?_⟩
  · exact (Below.heap_setCell _ _ _ _ (by show w.heap.size ≠ gK; omega)).trans ((Below.heap_setCell _ _ _ _ (by show w.heap.size ≠ gO; omega)).trans ((Below.heap_setCell _ _ _ _ (by show w.heap.size ≠ gO; omega)).trans h.box))
  · refine (Below.heap_setCell _ _ _ _ (by show gO ≠ gK; omega)).trans ?_
    rw [← cRow_set hk]
    exact blk_setCell (blk_setCell h.out _) _
  · rw [← bRow_set hk]
    exact blk_setCell ((Below.heap_setCell _ _ _ _ (by show gK ≠ gO; omega)).trans ((Below.heap_setCell _ _ _ _ (by show gK ≠ gO; omega)).trans h.kno)) _
  · exact ((h.big.setCell (p := ⟨gO, _, none⟩) (by show w.heap.size ≤ gO; omega) _).setCell (p := ⟨gO, _, none⟩) (by show w.heap.size ≤ gO; omega) _).setCell (p := ⟨gK, _, none⟩) (by show w.heap.size ≤ gK; omega) _
theorem OMem.made {w W : World} {v : Value} {F : Nat} {kn : Nat → Bool} {cs : Nat → Int × Int} (hk : W.heap[w.heap.size]? = some (.cells #[v] 53 (0, 0))) (hb : Below w.heap.size w W) :
    OMem w (((W.alloc (.cells (cRow F cs) 44)).alloc (.cells (bRow F kn) 4)).drew) W.heap.size (W.heap.size + 1) v F kn cs ∧
    OMem w (((W.alloc (.cells (bRow F kn) 4)).alloc (.cells (cRow F cs) 44)).drew) (W.heap.size + 1) W.heap.size v F kn cs := by
  have hl := lt_of_block hk
  obtain ⟨V1, e1, a1, a2, b1⟩ := two_alloc W (.cells (cRow F cs) 44) (.cells (bRow F kn) 4)
  obtain ⟨V2, e2, c1, c2, d1⟩ := two_alloc W (.cells (bRow F kn) 4) (.cells (cRow F cs) 44)
  rw [← e1, ← e2]
  exact ⟨⟨blk_below hk b1.drew, a1, a2, by omega, (hb.trans (b1.mono hb.size)).drew⟩, ⟨blk_below hk d1.drew, c2, c1, by omega, (hb.trans (d1.mono hb.size)).drew⟩⟩
/-- The same, with the row of the sides. -/
structure OMs (w wr : World) (gO gK nS : Nat) (v : Value) (F : Nat) (kn : Nat → Bool) (cs : Nat → Int × Int) : Prop where
  m : OMem w wr gO gK v F kn cs
  s : wr.heap[nS]? = some (.cells (cRow 4 sd) 44 (0, 0))
  ns : nS ≠ gO ∧ nS ≠ gK
theorem OMs.below {w wr w1 : World} {gO gK nS : Nat} {v : Value} {F : Nat} {kn : Nat → Bool} {cs : Nat → Int × Int} (h : OMs w wr gO gK nS v F kn cs) (hb : Below wr.heap.size wr w1) : OMs w w1 gO gK nS v F kn cs :=
  ⟨h.m.below hb, blk_below h.s hb, h.ns⟩
theorem OMs.set {w wr : World} {gO gK nS : Nat} {v : Value} {F : Nat} {kn : Nat → Bool} {cs : Nat → Int × Int} (h : OMs w wr gO gK nS v F kn cs) {k : Nat} (hk : k < F) (x y : Int) :
    OMs w (((wr.setCell ⟨gO, k * 2, none⟩ (.int .i64 x)).setCell ⟨gO, k * 2 + 1, none⟩ (.int .i64 y)).setCell ⟨gK, k, none⟩ (.bool true)) gO gK nS v F (updB kn k) (updC cs k (x, y)) :=
  ⟨h.m.set hk x y, (Below.heap_setCell _ _ _ _ (by show nS ≠ gK; exact h.ns.2)).trans ((Below.heap_setCell _ _ _ _ (by show nS ≠ gO; exact h.ns.1)).trans ((Below.heap_setCell _ _ _ _ (by show nS ≠ gO; exact h.ns.1)).trans h.s)), h.ns⟩
theorem cRow_sides : cRow 4 sd = #[.int .i64 0, .int .i64 (-1), .int .i64 (-1), .int .i64 0, .int .i64 1, .int .i64 0, .int .i64 0, .int .i64 1] := by rfl
theorem OMs.start {w wr : World} {gO gK : Nat} {v : Value} {F : Nat} {kn : Nat → Bool} {cs : Nat → Int × Int} (h : OMem w wr gO gK v F kn cs) :
    OMs w (wr.alloc (.cells #[.int .i64 0, .int .i64 (-1), .int .i64 (-1), .int .i64 0, .int .i64 1, .int .i64 0, .int .i64 0, .int .i64 1] 44)) gO gK wr.heap.size v F kn cs :=
  ⟨h.below ((Below.refl _ _).alloc (Nat.le_refl _) _), by rw [cRow_sides]; exact heap_alloc_new wr _, by have := lt_of_block h.out; omega, by have := lt_of_block h.kno; omega⟩
/-- What the cells hold. -/
theorem OMs.cells {w wr : World} {gO gK nS : Nat} {v : Value} {F : Nat} {kn : Nat → Bool} {cs : Nat → Int × Int} (h : OMs w wr gO gK nS v F kn cs) :
    (∀ j, j < 4 → wr.cell? ⟨nS, j * 2, none⟩ = some (.int .i64 (sd j).1) ∧ wr.cell? ⟨nS, j * 2 + 1, none⟩ = some (.int .i64 (sd j).2)) ∧
    (∀ f, f < F → wr.cell? ⟨gK, f, none⟩ = some (.bool (kn f)) ∧ wr.cell? ⟨gO, f * 2, none⟩ = some (.int .i64 (cs f).1) ∧ wr.cell? ⟨gO, f * 2 + 1, none⟩ = some (.int .i64 (cs f).2)) ∧
    (∀ f, wr.frozen? ⟨gK, f, none⟩ = false) ∧ (∀ f, wr.frozen? ⟨gO, f, none⟩ = false) :=
  ⟨fun j hj => ⟨by rw [blk_cell h.s]; exact (cRow_get hj).1, by rw [blk_cell h.s]; exact (cRow_get hj).2⟩,
   fun f hf => ⟨by rw [blk_cell h.m.kno]; exact bRow_get hf, by rw [blk_cell h.m.out]; exact (cRow_get hf).1, by rw [blk_cell h.m.out]; exact (cRow_get hf).2⟩,
   fun f => blk_free h.m.kno, fun f => blk_free h.m.out⟩
theorem OMem.rd {w wr : World} {gO gK : Nat} {v : Value} {F : Nat} {kn : Nat → Bool} {cs : Nat → Int × Int} (h : OMem w wr gO gK v F kn cs) (hF : F ≤ 9) : RdF elCell wr wr.heap.size (.slice (some ⟨gO, 0, none⟩) F F) ((List.range F).map cs) := by
  refine ⟨some ⟨gO, 0, none⟩, F, by simp, by simp, by unfold maxLen; omega, fun j x hx => ⟨⟨gO, 0, none⟩, rfl, lt_of_block h.out, fun i u hu => ?_⟩⟩
  have hj : j < F := by
    have := (List.getElem?_eq_some_iff.1 hx).1
    simpa using this
  have hx' : x = cs j := by
    rw [List.getElem?_map, List.getElem?_range hj] at hx
    exact (Option.some.inj hx).symm
  subst hx'
  have e : ∀ n, (⟨gO, 0, none⟩ : Addr).add n = ⟨gO, n, none⟩ := fun n => by unfold Addr.add; split <;> simp_all
  rw [e]
  have hu' : (duoC (cs j))[i]? = some u := hu
  show wr.cell? ⟨gO, j * 2 + i, none⟩ = some u
  rw [blk_cell h.out]
  have hi : i < 2 := by
    have := (List.getElem?_eq_some_iff.1 hu').1
    simpa [duoC] using this
  rcases show i = 0 ∨ i = 1 by omega with rfl | rfl
  · rw [← hu']; exact (cRow_get hj).1
  · rw [← hu']; exact (cRow_get hj).2
theorem infoBoolO : (Try.prog.info? 4).map (fun i => (i.zero, i.size, i.bytes)) = some (some (.bool false), 1, 1) := by kernel_rfl
theorem run_makeO (F : Nat) (hF : F ≤ 16) (w : World) : (Instr.makeSlice 36 (.int .i64 (F : Int)) (.int .i64 (F : Int))).run Try.prog w = .ok (.slice (some ⟨w.heap.size, 0, none⟩) F F) (w.alloc (.cells (cRow F fun _ => (0, 0)) 44)) := by
  obtain ⟨i, hi, hzz⟩ := Option.map_eq_some_iff.1 okCell.info
  simp only [Prod.mk.injEq] at hzz
  obtain ⟨hz, hsz, hby⟩ := hzz
  have hb : (i.bytes : Int) * (F : Int) ≤ 281474976710656 := by
    rw [hby]; show ((16 : Nat) : Int) * (F : Int) ≤ _; omega
  have := run_make (P := Try.prog) w 36 44 i (.agg #[.int .i64 0, .int .i64 0]) okCell.und hi hz .i64 .i64 (F : Int) (F : Int) (by omega) (Int.le_refl _) hb (by omega)
  rw [hsz] at this
  simp only [Int.toNat_natCast] at this
  rw [← cRow_made]
  exact this
theorem run_makeK (F : Nat) (hF : F ≤ 16) (w : World) : (Instr.makeSlice 101 (.int .i64 (F : Int)) (.int .i64 (F : Int))).run Try.prog w = .ok (.slice (some ⟨w.heap.size, 0, none⟩) F F) (w.alloc (.cells (bRow F fun _ => false) 4)) := by
  rw [← bRow_made]
  exact run_make_row' (P := Try.prog) 101 4 (.bool false) 1 Try.underlying101 infoBoolO rfl .i64 .i64 F (by omega) (by omega) w
end Go.Proofs.Ytehnbalbpfmijaa

namespace Go.Proofs.Ytehnbalbpfmijaa
open Go.RowKit
set_option linter.unusedVariables false

structure SM (w wr : World) (gD N : Nat) (kn : Nat → Bool) (vT : Value) (T : List (Int × Int)) (vO : Value) (out : List Lk) : Prop where
  t : Acc elCell w w.heap.size wr vT T
  o : Acc elDomino w w.heap.size wr vO out
  d : wr.heap[gD]? = some (.cells (bRow N kn) 4 (0, 0))
  nt : vT.ownBlock ≠ some gD
  no : vO.ownBlock ≠ some gD
  nn : ∀ g, vT.ownBlock = some g → vO.ownBlock ≠ some g
  lt : w.heap.size ≤ gD
section
variable {w wr w1 : World} {gD N : Nat} {kn : Nat → Bool} {vT vT' vO vO' : Value} {T T' : List (Int × Int)} {out out' : List Lk}
theorem SM.below (h : SM w wr gD N kn vT T vO out) (hb : Below wr.heap.size wr w1) : SM w w1 gD N kn vT T vO out :=
  ⟨h.t.below hb, h.o.below hb, blk_below h.d hb, h.nt, h.no, h.nn, h.lt⟩
theorem SM.set (h : SM w wr gD N kn vT T vO out) {k : Nat} (hk : k < N) : SM w (wr.setCell ⟨gD, k, none⟩ (.bool true)) gD N (updB kn k) vT T vO out := by
  have hg := grownBy_set wr gD k (.bool true)
  have hb : Below w.heap.size w (wr.setCell ⟨gD, k, none⟩ (.bool true)) := h.t.2.1.setCell (p := ⟨gD, k, none⟩) h.lt _
  refine ⟨⟨h.t.1.kept hg fun q h1 h2 => ?_, hb, h.t.2.2.1, Nat.le_trans h.t.2.2.2 (by simp)⟩, ⟨h.o.1.kept hg fun q h1 h2 => ?_, hb, h.o.2.2.1, Nat.le_trans h.o.2.2.2 (by simp)⟩, ?_, h.nt, h.no, h.nn, h.lt⟩
  · rw [h2] at h1; exact h.nt h1
  · rw [h2] at h1; exact h.no h1
  · rw [← bRow_set hk]; exact blk_setCell h.d _
theorem SM.pushT (h : SM w wr gD N kn vT T vO out) (HA : Acc elCell w w.heap.size w1 vT' T') (hg : Grew wr w1 vT vT') : SM w w1 gD N kn vT' T' vO out := by
  obtain ⟨g1, g, g2, g3, g4⟩ := hg
  have hd := lt_of_block h.d
  refine ⟨HA, ⟨h.o.1.kept g1 fun k h1 h2 => h.nn k h2.symm h1, HA.2.1, h.o.2.2.1, HA.2.2.2⟩, (g1.block gD hd fun e => h.nt e.symm).trans h.d, fun e => ?_, h.no, fun k h1 h2 => ?_, h.lt⟩
  · rw [g2] at e
    obtain rfl := Option.some.inj e
    rcases g3 with g3 | g3
    · exact h.nt g3
    · omega
  · rw [g2] at h1
    obtain rfl := Option.some.inj h1
    rcases g3 with g3 | g3
    · exact h.nn _ g3 h2
    · have := (h.o.1.lt _ h2).2; omega
theorem SM.pushO (h : SM w wr gD N kn vT T vO out) (HA : Acc elDomino w w.heap.size w1 vO' out') (hg : Grew wr w1 vO vO') : SM w w1 gD N kn vT T vO' out' := by
  obtain ⟨g1, g, g2, g3, g4⟩ := hg
  have hd := lt_of_block h.d
  refine ⟨⟨h.t.1.kept g1 fun k h1 h2 => h.nn k h1 h2.symm, HA.2.1, h.t.2.2.1, HA.2.2.2⟩, HA, (g1.block gD hd fun e => h.no e.symm).trans h.d, h.nt, fun e => ?_, fun k h1 h2 => ?_, h.lt⟩
  · rw [g2] at e
    obtain rfl := Option.some.inj e
    rcases g3 with g3 | g3
    · exact h.no g3
    · omega
  · rw [g2] at h2
    obtain rfl := Option.some.inj h2
    rcases g3 with g3 | g3
    · exact h.nn _ h1 g3
    · have := (h.t.1.lt _ h1).2; omega
theorem SM.cells (h : SM w wr gD N kn vT T vO out) : (∀ k, k < N → wr.cell? ⟨gD, k, none⟩ = some (.bool (kn k))) ∧ ∀ k, wr.frozen? ⟨gD, k, none⟩ = false :=
  ⟨fun k hk => by rw [blk_cell h.d]; exact bRow_get hk, fun k => blk_free h.d⟩
end
theorem blk_grew2 {w w1 : World} {v v' : Value} {a : Nat} {o : Obj} (h : w.heap[a]? = some o) (hG : Grew w w1 v v') (hn : v.ownBlock ≠ some a) : w1.heap[a]? = some o ∧ v'.ownBlock ≠ some a := by
  obtain ⟨g1, g, g2, g3, g4⟩ := hG
  have hl := lt_of_block h
  refine ⟨(g1.block a hl fun e => hn e.symm).trans h, fun e => ?_⟩
  rw [g2] at e
  obtain rfl := Option.some.inj e
  rcases g3 with g3 | g3
  · exact hn g3
  · omega
theorem cell_oth {w : World} {p : Addr} {b n : Nat} {v : Value} (h : p.block ≠ b) : (w.setCell ⟨b, n, none⟩ v).cell? p = w.cell? p := by
  unfold World.cell?
  rw [Below.heap_setCell _ _ _ _ h]
theorem keepO {w : World} {g i j b n : Nat} {u1 u2 v : Value} (hne : g ≠ b) (h : w.cell? ⟨g, i, none⟩ = some u1 ∧ w.cell? ⟨g, j, none⟩ = some u2) : (w.setCell ⟨b, n, none⟩ v).cell? ⟨g, i, none⟩ = some u1 ∧ (w.setCell ⟨b, n, none⟩ v).cell? ⟨g, j, none⟩ = some u2 :=
  ⟨(cell_oth (p := ⟨g, i, none⟩) hne).trans h.1, (cell_oth (p := ⟨g, j, none⟩) hne).trans h.2⟩
/-- The element k of the list, in memory. -/
theorem SM.tcell {w wr : World} {gD N : Nat} {kn : Nat → Bool} {vT vO : Value} {T : List (Int × Int)} {out : List Lk} (h : SM w wr gD N kn vT T vO out) {k : Nat} (hk : k < T.length) :
    ∃ gT cap, vT = .slice (some ⟨gT, 0, none⟩) T.length cap ∧ gT ≠ gD ∧ gT < wr.heap.size ∧ T.length ≤ cap ∧ cap ≤ maxLen ∧ wr.cell? ⟨gT, k * 2, none⟩ = some (.int .i64 (dx T k)) ∧ wr.cell? ⟨gT, k * 2 + 1, none⟩ = some (.int .i64 (dy T k)) := by
  obtain ⟨gT, cap, hv, hb, hlt⟩ := World.ownsRow.form h.t.1 (by omega)
  have hrd := h.t.1.rd okCell
  subst hv
  obtain ⟨A, c, e, h1, h2, G⟩ := hrd
  simp only [Value.slice.injEq, true_and] at e
  obtain ⟨rfl, rfl⟩ := e
  have hn := h.nt
  refine ⟨gT, _, rfl, fun q => hn (by simp [Value.ownBlock, q]), hlt, h1, h2, ?_, ?_⟩
  · obtain ⟨ad, ea, _, hc⟩ := G k (dx T k, dy T k) (duo_get T k hk)
    simp only [Option.some.injEq] at ea
    subst ea
    have := hc 0 (.int .i64 (dx T k)) rfl
    have e2 : (⟨gT, 0, none⟩ : Addr).add (k * elCell.s + 0) = ⟨gT, k * 2, none⟩ := by
      show (⟨gT, 0, none⟩ : Addr).add (k * 2) = _
      unfold Addr.add; split <;> simp_all
    rw [e2] at this; exact this
  · obtain ⟨ad, ea, _, hc⟩ := G k (dx T k, dy T k) (duo_get T k hk)
    simp only [Option.some.injEq] at ea
    subst ea
    have := hc 1 (.int .i64 (dy T k)) rfl
    have e2 : (⟨gT, 0, none⟩ : Addr).add (k * elCell.s + 1) = ⟨gT, k * 2 + 1, none⟩ := by
      show (⟨gT, 0, none⟩ : Addr).add (k * 2 + 1) = _
      unfold Addr.add; split <;> simp_all
    rw [e2] at this; exact this
theorem SM.start (w : World) (N : Nat) : SM w (((w.alloc (.cells (bRow N fun _ => false) 4)).alloc (.cells #[] 44)).alloc (.cells #[] 46)) w.heap.size N (fun _ => false) (.slice (some ⟨w.heap.size + 1, 0, none⟩) 0 0) [] (.slice (some ⟨w.heap.size + 1 + 1, 0, none⟩) 0 0) [] := by
  obtain ⟨W1, e1, k1, b1⟩ := one_alloc w (.cells (bRow N fun _ => false) 4)
  have s1 : W1.heap.size = w.heap.size + 1 := by rw [e1]; simp
  have hT : Acc elCell w w.heap.size (W1.alloc (.cells #[] 44)) (.slice (some ⟨W1.heap.size, 0, none⟩) 0 0) [] := Acc.startAt b1 (Nat.le_refl _) (by omega)
  obtain ⟨W2, e2, _, b2⟩ := one_alloc W1 (.cells #[] 44)
  have s2 : W2.heap.size = w.heap.size + 2 := by rw [e2]; simp; omega
  have hO : Acc elDomino w w.heap.size (W2.alloc (.cells #[] 46)) (.slice (some ⟨W2.heap.size, 0, none⟩) 0 0) [] := Acc.startAt (b1.trans (b2.mono b1.size)) (Nat.le_refl _) (by omega)
  have b3 := (Below.refl W2.heap.size W2).alloc (Nat.le_refl _) (.cells #[] 46)
  rw [← e2] at hT
  rw [← e1, ← e2]
  rw [s1] at hT
  rw [s2] at hO
  refine ⟨hT.below b3, hO, blk_below (blk_below k1 b2) b3, ?_, ?_, ?_, Nat.le_refl _⟩
  · simp [Value.ownBlock]
  · simp [Value.ownBlock]; omega
  · intro g hg e
    simp only [Value.ownBlock, Option.some.injEq] at hg e
    omega
/-! ### The cells around the floor -/
def rgAt (w h i j : Nat) : List (Int × Int) := if 2 * (i : Int) - 1 < 0 ∨ 2 * (j : Int) - 1 < 0 ∨ 2 * (w : Int) - 1 ≤ 2 * (i : Int) - 1 ∨ 2 * (h : Int) - 1 ≤ 2 * (j : Int) - 1 then [(2 * (i : Int) - 1, 2 * (j : Int) - 1)] else []
def rgRow (w h j : Nat) : Nat → List (Int × Int) | 0 => [] | i + 1 => rgRow w h j i ++ rgAt w h i j
def rgAll (w h : Nat) : Nat → List (Int × Int) | 0 => [] | j + 1 => rgAll w h j ++ rgRow w h j (w + 1)
theorem rgAt_len (w h i j : Nat) : (rgAt w h i j).length ≤ 1 := by unfold rgAt; split <;> simp
theorem rgRow_len (w h j : Nat) : ∀ i, (rgRow w h j i).length ≤ i
  | 0 => by simp [rgRow]
  | i + 1 => by have := rgRow_len w h j i; have := rgAt_len w h i j; simp [rgRow]; omega
theorem rgAll_len (w h : Nat) : ∀ j, (rgAll w h j).length ≤ j * (w + 1)
  | 0 => by simp [rgAll]
  | j + 1 => by have := rgAll_len w h j; have := rgRow_len w h j (w + 1); rw [rgAll, List.length_append, Nat.succ_mul]; omega
theorem mem_row {w h j : Nat} {c : Int × Int} : ∀ {n : Nat}, c ∈ rgRow w h j n ↔ ∃ i, i < n ∧ c ∈ rgAt w h i j
  | 0 => by simp [rgRow]
  | n + 1 => by
    rw [rgRow, List.mem_append, mem_row]
    constructor
    · rintro (⟨i, h1, h2⟩ | h2)
      · exact ⟨i, by omega, h2⟩
      · exact ⟨n, by omega, h2⟩
    · rintro ⟨i, h1, h2⟩
      rcases Nat.lt_succ_iff_lt_or_eq.1 h1 with h1 | rfl
      · exact .inl ⟨i, h1, h2⟩
      · exact .inr h2
theorem mem_all {w h : Nat} {c : Int × Int} : ∀ {n : Nat}, c ∈ rgAll w h n ↔ ∃ j, j < n ∧ c ∈ rgRow w h j (w + 1)
  | 0 => by simp [rgAll]
  | n + 1 => by
    rw [rgAll, List.mem_append, mem_all]
    constructor
    · rintro (⟨i, h1, h2⟩ | h2)
      · exact ⟨i, by omega, h2⟩
      · exact ⟨n, by omega, h2⟩
    · rintro ⟨i, h1, h2⟩
      rcases Nat.lt_succ_iff_lt_or_eq.1 h1 with h1 | rfl
      · exact .inl ⟨i, h1, h2⟩
      · exact .inr h2
theorem mem_at {w h i j : Nat} {c : Int × Int} : c ∈ rgAt w h i j ↔ c = (2 * (i : Int) - 1, 2 * (j : Int) - 1) ∧ ¬ inW (2 * w - 1) (2 * h - 1) c := by
  unfold rgAt
  constructor
  · intro q
    split at q
    · simp only [List.mem_singleton] at q
      subst q
      refine ⟨rfl, ?_⟩
      unfold inW; simp only; omega
    · simp at q
  · rintro ⟨rfl, q⟩
    unfold inW at q
    simp only at q
    rw [if_pos (by omega)]
    simp
/-- Where the search begins. -/
def iniZ (w h : Nat) (rb : Bool) : List (Int × Int) := if rb then [(0, 0)] else rgAll w h (h + 1)
theorem ini_facts {w h : Nat} (hw : 1 ≤ w) (hh : 1 ≤ h) (rb : Bool) :
    (∀ c ∈ iniZ w h rb, (if rb then isO else out1 (2 * w - 1) (2 * h - 1)) c ∧ c.1 % 2 = (if rb then 0 else 1) ∧ c.2 % 2 = (if rb then 0 else 1)) ∧
    (∀ c e, (if rb then isO else out1 (2 * w - 1) (2 * h - 1)) c → e ∈ dirs4 → inW (2 * w - 1) (2 * h - 1) (pad (pad c e) e) → c ∈ iniZ w h rb) ∧
    (∀ v, inW (2 * w - 1) (2 * h - 1) v → v ∉ iniZ w h rb → ¬ (if rb then isO else out1 (2 * w - 1) (2 * h - 1)) v) ∧
    ∀ c ∈ iniZ w h rb, extW (2 * w - 1) (2 * h - 1) c := by
  cases rb
  · simp only [iniZ, Bool.false_eq_true, if_false]
    refine ⟨fun c hc => ?_, fun c e hc he hi => ?_, fun v hv _ q => q.2 hv, fun c hc => ?_⟩
    · obtain ⟨j, hj, q⟩ := mem_all.1 hc
      obtain ⟨i, hi, q⟩ := mem_row.1 q
      obtain ⟨rfl, q2⟩ := mem_at.1 q
      have p : (2 * (i : Int) - 1) % 2 = 1 ∧ (2 * (j : Int) - 1) % 2 = 1 := by omega
      exact ⟨⟨p, q2⟩, p⟩
    · obtain ⟨⟨p1, p2⟩, p3⟩ := hc
      obtain ⟨x, y⟩ := c
      simp only at p1 p2
      have hx : -1 ≤ x ∧ x ≤ 2 * w - 1 ∧ -1 ≤ y ∧ y ≤ 2 * h - 1 := by
        rcases (dirs4_iff e).1 he with rfl | rfl | rfl | rfl <;> simp [pad, inW] at hi <;> omega
      refine mem_all.2 ⟨((y + 1) / 2).toNat, by omega, mem_row.2 ⟨((x + 1) / 2).toNat, by omega, mem_at.2 ⟨?_, p3⟩⟩⟩
      ext <;> simp only <;> omega
    · obtain ⟨j, hj, q⟩ := mem_all.1 hc
      obtain ⟨i, hi, q⟩ := mem_row.1 q
      obtain ⟨rfl, q2⟩ := mem_at.1 q
      unfold extW; simp only; omega
  · simp only [iniZ, if_true]
    refine ⟨fun c hc => ?_, fun c e hc he hi => ?_, fun v hv h1 h2 => ?_, fun c hc => ?_⟩
    · simp only [List.mem_singleton] at hc; subst hc; exact ⟨rfl, by simp, by simp⟩
    · unfold isO at hc; subst hc; simp
    · unfold isO at h2; subst h2; simp at h1
    · simp only [List.mem_singleton] at hc; subst hc; unfold extW; simp only; omega
end Go.Proofs.Ytehnbalbpfmijaa
