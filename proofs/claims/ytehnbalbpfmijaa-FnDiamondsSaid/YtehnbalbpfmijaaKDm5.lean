/- What the claim's walk rests on: parts SortI, Links, Posts, LkIx, HasS, Duo. -/
import Derived.Test.YtehnbalbpfmijaaKDm4
import Derived.Test.YtehnbalbpfmijaaKDm2
import Derived.Test.YtehnbalbpfmijaaKDm1
import Derived.Deep.RegionHeld3
import Derived.Deep.RegionLaw
import Derived.Deep.QuietTactic
import Derived.BigQuiet
namespace Go.Proofs.Ytehnbalbpfmijaa
open Go.RowKit
set_option linter.unusedVariables false

theorem tri_cells {w : World} {a : Nat} {x y : Int} {d : Bool} {t : TypeId} (h : w.heap[a]? = some (triO x y d t)) : w.cell? ⟨a, 0, none⟩ = some (.int .i64 x) ∧ w.cell? ⟨a, 1, none⟩ = some (.int .i64 y) ∧ w.cell? ⟨a, 2, none⟩ = some (.bool d) :=
  ⟨by rw [blk_cell h]; rfl, by rw [blk_cell h]; rfl, by rw [blk_cell h]; rfl⟩
theorem blk_grew {W6 w7 : World} {v v' : Value} {a : Nat} {o : Obj} (h : W6.heap[a]? = some o) (hG : Grew W6 w7 v v') (hob : ∀ g, v.ownBlock = some g → g < a) : w7.heap[a]? = some o ∧ ∀ g, v'.ownBlock = some g → a ≠ g := by
  obtain ⟨g1, g, g2, g3, g4⟩ := hG
  have hl := lt_of_block h
  refine ⟨(g1.block a hl fun e => by have := hob a e.symm; omega).trans h, fun k hk => ?_⟩
  rw [g2] at hk
  obtain rfl := Option.some.inj hk
  rcases g3 with g3 | g3
  · have := hob _ g3; omega
  · omega
theorem set_shift {α : Type} (ys : List α) (j : Nat) (z : α) (h : j < ys.length) : (ys.take (j + 1) ++ ys.drop j).set j z = ys.take j ++ z :: ys.drop j := by
  have e : ys.take (j + 1) = ys.take j ++ [ys[j]] := by rw [List.take_succ_eq_append_getElem h]
  have hl : (ys.take j).length = j := by simp; omega
  rw [e, List.append_assoc, List.set_append_right _ _ (by omega), hl, Nat.sub_self]
  rfl
set_option maxRecDepth 100000 in
set_option maxHeartbeats 4000000 in
theorem SortDominoes_any (v : Value) (ls : List Lk) (B : Nat) (w : World) (h : RdF elDomino w B v ls) (hB : B ≤ w.heap.size) :
    Calls Try.prog 75 #[v] w fun e w' => ∃ u, e = .returned u ∧ OwnF elDomino w' w.heap.size u (sortI ls ls.length) ∧ Below w.heap.size w w' := by
  obtain ⟨A, c, rfl, g1, g2, G3⟩ := RdT.of (E := elDomino) rfl (fun _ => rfl) h
  unfold maxLen at g2
  clear h
  have HA0 : Hid (Acc elDomino w w.heap.size (w.alloc (.cells #[] 46)) (.slice (some ⟨w.heap.size, 0, none⟩) 0 0) []) := Acc.start w
  have HSS := Lib.hid (sort_same ls)
  have HSI : Hid (∀ k, sortI ls (k + 1) = if domL (dAt ls k) then insI (dAt ls k) (sortI ls k) else sortI ls k) := fun k => rfl
  have HS0 : Hid (sortI ls 0 = []) := rfl
  obtain ⟨st, HST⟩ : ∃ st, Hid (st = sortI ls) := ⟨_, rfl⟩
  rw [← HST.out] at HSI HS0 ⊢
  have HSR : Hid (∀ k, Sorted (st k)) := fun k => by rw [HST.out]; exact (HSS.out k).2
  clear HST HSS
  go_enter Try.func75, Try.ntmps75
  go_wp2_with fail
  go_loopw [3, 10] (fun o i wr => ∃ (k : Nat) (u : Value), k ≤ ls.length ∧ i = .int .i64 k ∧ u = o ∧ Hid (Acc elDomino w w.heap.size wr u (st k))) (fun _ i _ => ls.length - (intOf i).toNat)
  case atStart => exact ⟨0, _, Nat.zero_le _, rfl, rfl, by rw [HS0.out]; exact HA0⟩
  case round =>
    obtain ⟨k, u, hk, rfl, rfl, HA⟩ := hrel
    obtain ⟨A1, ca, hv, q1, q2, _⟩ := HA.out.1.rd okDomino
    subst hv
    unfold maxLen at q2
    by_cases hlt : k < ls.length
    · have ht : decide ((k : Int) < (ls.length : Int)) = true := by simp only [decide_eq_true_eq]; omega
      obtain ⟨ad, rfl, hbl, hx, hy, hz⟩ := G3.out k hlt
      have hbl2 : (ad.add (k * 3)).block < w.heap.size := by rw [addBlock]; omega
      have hbw := HA.out.2.1
      have hx' := (hbw.cell (p := ad.add (k * 3)) hbl2).trans hx
      have hy' := (hbw.cell (p := ⟨(ad.add (k * 3)).block, (ad.add (k * 3)).off + 1, none⟩) hbl2).trans hy
      have hz' := (hbw.cell (p := ⟨(ad.add (k * 3)).block, (ad.add (k * 3)).off + 2, none⟩) hbl2).trans hz
      have HNX := Lib.hid (HSI.out k)
      have HYS := Lib.hid (HSR.out k)
      have hshort := (HSR.out k).short
      have HDA : Hid (dAt ls k = (lx ls k, ly ls k, ld ls k)) := rfl
      rw [HDA.out] at HNX
      have hk0 : (0 : Int) ≤ (k : Int) := by omega
      have hk1 : (k : Int) < (ls.length : Int) := by omega
      generalize lx ls k = x at *
      generalize ly ls k = y at *
      generalize ld ls k = d at *
      obtain ⟨ys, HYQ⟩ : ∃ ys, Hid (st k = ys) := ⟨_, rfl⟩
      rw [HYQ.out] at HA HNX HYS hshort q1 ⊢
      clear hx hy hz hbw HDA HYQ
      go_wp2_with fail
      obtain ⟨V, hV, k1, hbV⟩ := one_alloc wr (triO x y d 46)
      rw [← hV]
      obtain ⟨vn, hvn⟩ : ∃ vn, wr.heap.size = vn := ⟨_, rfl⟩
      rw [hvn] at k1 ⊢
      have HA2 := Lib.hid (HA.out.below hbV)
      have HK0 := Lib.hid k1
      have HOB : Hid (∀ g, (Value.slice A1 ys.length ca).ownBlock = some g → g < vn) := fun g hg => by rw [← hvn]; exact (HA.out.1.lt g hg).2
      clear hV k1 hbV hx' hy' hz' hvn
      refine (DominoOk_any x y d _).mono ?_
      rintro e w1 ⟨rfl, hb1⟩
      have HK1 := Lib.hid (blk_below HK0.out hb1)
      have HA3 := Lib.hid (HA2.out.below hb1)
      clear hb1
      obtain ⟨f1, f2, f3⟩ := tri_cells HK1.out
      cases hd : domB x y d
      · have HE : Hid (st (k + 1) = ys) := by unfold Hid; rw [HNX.out, if_neg (by simp [domL, hd])]
        clear HNX hd
        go_wp2_with fail
        go_roundw
        case rel => exact ⟨k + 1, _, by omega, by go_num, rfl, by rw [HE.out]; exact HA3⟩
        case measure => simp [intOf]; omega
      · have HE : Hid (st (k + 1) = insI (x, y, d) ys) := by unfold Hid; rw [HNX.out, if_pos (by simp [domL, hd])]
        have HD := Lib.hid hd
        clear HNX
        have hC2 := Lib.hid fun V => order_Z x y d V hd
        have HIN : Hid (insI (x, y, d) ys = if decide (0 < downK ys (domO x.toNat y.toNat d) ys.length) && (dAt ys (downK ys (domO x.toNat y.toNat d) ys.length - 1) == (x, y, d)) then ys else ys.take (downK ys (domO x.toNat y.toNat d) ys.length) ++ (x, y, d) :: ys.drop (downK ys (domO x.toNat y.toNat d) ys.length)) := rfl
        generalize domO x.toNat y.toNat d = o at *
        obtain ⟨q, HQ⟩ : ∃ q, Hid (downK ys o ys.length = q) := ⟨_, rfl⟩
        rw [HQ.out] at HIN
        rw [HIN.out] at HE
        clear hd HIN
        go_wp2_with fail
        go_loopw [6] (fun s wr2 => ∃ j : Nat, j ≤ ys.length ∧ s = .int .i64 j ∧ Hid (downK ys o j = q) ∧ Hid (Below w1.heap.size w1 wr2)) (fun s _ => (intOf s).toNat)
        case atStart => exact ⟨ys.length, Nat.le_refl _, rfl, HQ, Below.refl _ _⟩
        case round =>
          obtain ⟨j, hj, rfl, HJ, HB⟩ := hrel
          have HA4 := Lib.hid (HA3.out.below HB.out)
          have HK2 := Lib.hid (blk_below HK1.out HB.out)
          obtain ⟨e1, e2, e3⟩ := tri_cells HK2.out
          clear f1 f2 f3
          have hj0 : (0 : Int) ≤ (j : Int) := by omega
          have hw1 : IntKind.i64.wrap ((j : Int) + 1) = (j : Int) + 1 := IntWalk.i64_in _ (by omega)
          have hn1 : ((j : Int) + 1).toNat = j + 1 := by omega
          by_cases hjz : j = 0
          · have hq0 : q = 0 := by subst hjz; exact HJ.out.symm
            have HE0 : Hid (st (k + 1) = ys.take j ++ (x, y, d) :: ys.drop j) := by unfold Hid; rw [HE.out, hq0, hjz]; simp
            have htz : decide (0 < j) = false := by simp only [decide_eq_false_iff_not]; omega
            clear HE hq0 hjz
            go_wp2_with fail
            go_quiet (fail)
            obtain ⟨W5, HW5⟩ : ∃ W5, Hid (W5 = wr.drewN nq) := ⟨_, rfl⟩
            rw [← HW5.out]
            go_wp2_with fail
            go_quiet (fail)
            obtain ⟨W6, HW6⟩ : ∃ W6, Hid (W6 = W5.drewN nq) := ⟨_, rfl⟩
            rw [← HW6.out]
            have HBW : Hid (Below wr.heap.size wr W6) := by unfold Hid; rw [HW6.out, HW5.out]; exact (Drawn.below ⟨_, rfl⟩ _).trans ((Drawn.below ⟨_, rfl⟩ _))
            have HA6 := Lib.hid (HA4.out.below HBW.out)
            have HK6 := Lib.hid (blk_below HK2.out HBW.out)
            go_wp2_with (at_builtin; refine wpList_push okDomino rfl _ _ rfl HA6.out rfl (0, 0, false) _ rfl _ rfl rfl (by omega) ?_; intro v7 w7 HA7 HG7; obtain ⟨g7, c7, hv7, hgb7, hglt7⟩ := World.ownsRow.form HA7.out.1 (by simp); rw [List.length_append, List.length_singleton] at hv7; subst hv7)
            have hc7 : ys.length + 1 ≤ c7 := by
              obtain ⟨A9, c9, hv9, q91, q92, _⟩ := HA7.out.1.rd okDomino
              simp at hv9 q91
              omega
            have hge : (0 : Int) ≤ (j : Int) + 1 := by omega
            have HK7 := Lib.hid (blk_grew HK6.out HG7.out HOB.out)
            by_cases hjl : j = ys.length
            · have hle : (j : Int) + 1 ≤ (ys.length : Int) + 1 := by omega
              have hle' : (j : Int) ≤ (ys.length : Int) + 1 := by omega
              have hmin : Nat.min (ys.length + 1 - j) (ys.length - j) = 0 := by show min _ _ = 0; omega
              have HJL := Lib.hid hjl
              clear hjl
              refine wp_region_held_drew (S := fun _ => True) (by kernel_rfl) (by exact trivial) (fun hHeld => ?_)
              refine wpAnyH_take (i := 0) (oi := ⟨_, _, _, _, _, _⟩) (v := ?vap29651q1n0) rfl (by kernel_rfl) (by kernel_rfl) (by kernel_rfl) (fun _ _ _ h => h) (Or.inl ⟨by rfl, ?hap29651q1n0⟩) (by assumption) ?_
              case hap29651q1n0 => (intro w hSw; (try dsimp only at hSw); go_simp; try with_reducible rfl)
              try simp only [Act.put, List.setIfInBounds_toArray, List.set_cons_zero, List.set_cons_succ]
              refine wpAnyH_take (i := 1) (oi := ⟨_, _, _, _, _, _⟩) (v := ?vap29651q2n1) rfl (by kernel_rfl) (by kernel_rfl) (by kernel_rfl) (fun _ _ _ h => h) (Or.inl ⟨by rfl, ?hap29651q2n1⟩) (by assumption) ?_
              case hap29651q2n1 => (intro w hSw; (try dsimp only at hSw); go_simp; try with_reducible rfl)
              try simp only [Act.put, List.setIfInBounds_toArray, List.set_cons_zero, List.set_cons_succ]
              refine wpAnyH_take (i := 2) (oi := ⟨_, _, _, _, _, _⟩) (v := ?vap29651q3n2) rfl (by kernel_rfl) (by kernel_rfl) (by kernel_rfl) (fun _ _ _ h => h) (Or.inl ⟨by rfl, ?hap29651q3n2⟩) (by assumption) ?_
              case hap29651q3n2 => (intro w hSw; (try dsimp only at hSw); go_simp; try with_reducible rfl)
              try simp only [Act.put, List.setIfInBounds_toArray, List.set_cons_zero, List.set_cons_succ]
              refine wpAnyH_take (i := 3) (oi := ⟨_, _, _, _, _, _⟩) (v := ?vap29651q4n3) rfl (by kernel_rfl) (by kernel_rfl) (by kernel_rfl) (fun _ _ _ h => h) (Or.inl ⟨by rfl, ?hap29651q4n3⟩) (by assumption) ?_
              case hap29651q4n3 => (intro w hSw; (try dsimp only at hSw); go_simp; try with_reducible rfl)
              try simp only [Act.put, List.setIfInBounds_toArray, List.set_cons_zero, List.set_cons_succ]
              refine wpAnyH_take (i := 4) (oi := ⟨_, _, _, _, _, _⟩) (v := ?vap29651q5n4) rfl (by kernel_rfl) (by kernel_rfl) (by kernel_rfl) (fun _ _ _ h => h) (Or.inl ⟨by rfl, ?hap29651q5n4⟩) (by assumption) ?_
              case hap29651q5n4 => (intro w hSw; (try dsimp only at hSw); go_simp; try with_reducible rfl)
              try simp only [Act.put, List.setIfInBounds_toArray, List.set_cons_zero, List.set_cons_succ]
              refine wpAnyH_take (i := 5) (oi := ⟨_, _, _, _, _, _⟩) (v := ?vap29651q6n5) rfl (by kernel_rfl) (by kernel_rfl) (by kernel_rfl) (fun _ _ _ h => h) (Or.inl ⟨by rfl, ?hap29651q6n5⟩) (by assumption) ?_
              case hap29651q6n5 => (intro w hSw; (try dsimp only at hSw); go_simp; try with_reducible rfl)
              try simp only [Act.put, List.setIfInBounds_toArray, List.set_cons_zero, List.set_cons_succ]
              refine wpAnyH_take (i := 6) (oi := ⟨_, _, _, _, _, _⟩) (v := ?vap29651q7n6) rfl (by kernel_rfl) (by kernel_rfl) (by kernel_rfl) (fun _ _ _ h => h) (Or.inl ⟨by rfl, ?hap29651q7n6⟩) (by assumption) ?_
              case hap29651q7n6 => (intro w hSw; (try dsimp only at hSw); go_simp; try with_reducible rfl)
              try simp only [Act.put, List.setIfInBounds_toArray, List.set_cons_zero, List.set_cons_succ]
              refine wpAnyH_ready (rs := [7]) (by kernel_rfl) (by simp) ?_
              refine AllReadyH.cons (o := ⟨_, _, _, _, _, _⟩) rfl (fun K hK => ?_) AllReadyH.nil
              refine step_copyNone okDomino (by rfl) (.tmp 52) (.tmp 55) (by rfl) (by rfl) (by rfl) hmin ?_
              refine hK.out _ _ (by exact trivial) (fun hHeld => ?_)
              clear hK K
              try simp only [Act.put, List.setIfInBounds_toArray, List.set_cons_zero, List.set_cons_succ]
              refine wpAnyH_done (by kernel_rfl) ?_ _
              obtain ⟨w8, HW8⟩ : ∃ w8, Hid (w8 = w7.drew) := ⟨_, rfl⟩
              rw [← HW8.out]
              obtain ⟨zs, HZS⟩ : ∃ zs, Hid (zs = ys ++ [((0, 0, false) : Lk)]) := ⟨_, rfl⟩
              have HO8 : Hid (OwnF elDomino w8 w.heap.size (.slice (some ⟨g7, 0, none⟩) zs.length c7) zs) := by
                unfold Hid; rw [HW8.out, HZS.out, List.length_append, List.length_singleton]
                exact HA7.out.1
              have HZL : Hid (zs.length = ys.length + 1) := by rw [HZS.out]; unfold Hid; simp
              have HZE : Hid (zs.set j (x, y, d) = ys.take j ++ (x, y, d) :: ys.drop j) := by unfold Hid; rw [HZS.out, HJL.out]; simp
              have HB8 : Hid (Below w.heap.size w w8) := by unfold Hid; rw [HW8.out]; exact HA7.out.2.1.trans (Drawn.below ⟨_, rfl⟩ _)
              have HK8 := Lib.hid (show w8.heap[_]? = _ from (congrArg (fun q : World => q.heap[_]?) HW8.out).trans HK7.out.1)
              have hzl : zs.length = ys.length + 1 := HZL.out
              obtain ⟨c0, c1, c2, hfr, ht3⟩ := triStore okDomino rfl (fun _ => rfl) (cap := c7) (ls := zs) HO8.out (j := j) (by omega)
              obtain ⟨hst, hgr⟩ := ht3 x y d
              rw [List.length_set, hzl] at hst
              have HBN := Lib.hid (HB8.out.grown hgr HB8.out.size (fun q hq => by obtain rfl := Option.some.inj hq; exact hgb7))
              have hle9 := HBN.out.size
              have HN := Lib.hid hst
              have hj7 : (j : Int) < (ys.length : Int) + 1 := by omega
              obtain ⟨h1, h2, h3⟩ := tri_cells HK8.out
              clear hst hgr ht3 hzl
              go_wp2_with fail
              go_roundw
              case rel => exact ⟨k + 1, _, by omega, by go_num, rfl, by rw [HE0.out, ← HZE.out]; exact ⟨HN.out, HBN.out, Nat.le_refl _, hle9⟩⟩
              case measure => simp [intOf]; omega
            · have hle : (j : Int) + 1 ≤ (ys.length : Int) + 1 := by omega
              have hle' : (j : Int) ≤ (ys.length : Int) + 1 := by omega
              have hc8 : ¬ c7 = j + 1 := by omega
              have hc9 : ¬ c7 = j := by omega
              have hjlt : j < ys.length := by omega
              clear hjl
              refine wp_region_held_drew (S := fun _ => True) (by kernel_rfl) (by exact trivial) (fun hHeld => ?_)
              refine wpAnyH_take (i := 0) (oi := ⟨_, _, _, _, _, _⟩) (v := ?vap29652q1n0) rfl (by kernel_rfl) (by kernel_rfl) (by kernel_rfl) (fun _ _ _ h => h) (Or.inl ⟨by rfl, ?hap29652q1n0⟩) (by assumption) ?_
              case hap29652q1n0 => (intro w hSw; (try dsimp only at hSw); go_simp; try with_reducible rfl)
              try simp only [Act.put, List.setIfInBounds_toArray, List.set_cons_zero, List.set_cons_succ]
              refine wpAnyH_take (i := 1) (oi := ⟨_, _, _, _, _, _⟩) (v := ?vap29652q2n1) rfl (by kernel_rfl) (by kernel_rfl) (by kernel_rfl) (fun _ _ _ h => h) (Or.inl ⟨by rfl, ?hap29652q2n1⟩) (by assumption) ?_
              case hap29652q2n1 => (intro w hSw; (try dsimp only at hSw); go_simp; try with_reducible rfl)
              try simp only [Act.put, List.setIfInBounds_toArray, List.set_cons_zero, List.set_cons_succ]
              refine wpAnyH_take (i := 2) (oi := ⟨_, _, _, _, _, _⟩) (v := ?vap29652q3n2) rfl (by kernel_rfl) (by kernel_rfl) (by kernel_rfl) (fun _ _ _ h => h) (Or.inl ⟨by rfl, ?hap29652q3n2⟩) (by assumption) ?_
              case hap29652q3n2 => (intro w hSw; (try dsimp only at hSw); go_simp; try with_reducible rfl)
              try simp only [Act.put, List.setIfInBounds_toArray, List.set_cons_zero, List.set_cons_succ]
              refine wpAnyH_take (i := 3) (oi := ⟨_, _, _, _, _, _⟩) (v := ?vap29652q4n3) rfl (by kernel_rfl) (by kernel_rfl) (by kernel_rfl) (fun _ _ _ h => h) (Or.inl ⟨by rfl, ?hap29652q4n3⟩) (by assumption) ?_
              case hap29652q4n3 => (intro w hSw; (try dsimp only at hSw); go_simp; try with_reducible rfl)
              try simp only [Act.put, List.setIfInBounds_toArray, List.set_cons_zero, List.set_cons_succ]
              refine wpAnyH_take (i := 4) (oi := ⟨_, _, _, _, _, _⟩) (v := ?vap29652q5n4) rfl (by kernel_rfl) (by kernel_rfl) (by kernel_rfl) (fun _ _ _ h => h) (Or.inl ⟨by rfl, ?hap29652q5n4⟩) (by assumption) ?_
              case hap29652q5n4 => (intro w hSw; (try dsimp only at hSw); go_simp; try with_reducible rfl)
              try simp only [Act.put, List.setIfInBounds_toArray, List.set_cons_zero, List.set_cons_succ]
              refine wpAnyH_take (i := 5) (oi := ⟨_, _, _, _, _, _⟩) (v := ?vap29652q6n5) rfl (by kernel_rfl) (by kernel_rfl) (by kernel_rfl) (fun _ _ _ h => h) (Or.inl ⟨by rfl, ?hap29652q6n5⟩) (by assumption) ?_
              case hap29652q6n5 => (intro w hSw; (try dsimp only at hSw); go_simp; try with_reducible rfl)
              try simp only [Act.put, List.setIfInBounds_toArray, List.set_cons_zero, List.set_cons_succ]
              refine wpAnyH_take (i := 6) (oi := ⟨_, _, _, _, _, _⟩) (v := ?vap29652q7n6) rfl (by kernel_rfl) (by kernel_rfl) (by kernel_rfl) (fun _ _ _ h => h) (Or.inl ⟨by rfl, ?hap29652q7n6⟩) (by assumption) ?_
              case hap29652q7n6 => (intro w hSw; (try dsimp only at hSw); go_simp; try with_reducible rfl)
              try simp only [Act.put, List.setIfInBounds_toArray, List.set_cons_zero, List.set_cons_succ]
              refine wpAnyH_ready (rs := [7]) (by kernel_rfl) (by simp) ?_
              refine AllReadyH.cons (o := ⟨_, _, _, _, _, _⟩) rfl (fun K hK => ?_) AllReadyH.nil
              refine step_copyIn okDomino (by rfl) (.tmp 52) (.tmp 55) (by rfl) g7 c7 j (ys.length - j) _ _ w.heap.size ys (0, 0, false) (by rfl) (by rfl) (by rfl) (show OwnF _ w7.drew _ _ _ from HA7.out.1) hjlt ?_
              intro w8 HO8 HG8
              refine hK.out _ _ (by exact trivial) (fun hHeld => ?_)
              clear hK K
              try simp only [Act.put, List.setIfInBounds_toArray, List.set_cons_zero, List.set_cons_succ]
              refine wpAnyH_done (by kernel_rfl) ?_ _
              obtain ⟨zs, HZS⟩ : ∃ zs, Hid (zs = ys.take (j + 1) ++ ys.drop j) := ⟨_, rfl⟩
              have HZL : Hid (zs.length = ys.length + 1) := by rw [HZS.out]; unfold Hid; simp; omega
              have HO8 : Hid (OwnF elDomino w8 w.heap.size (.slice (some ⟨g7, 0, none⟩) zs.length c7) zs) := by
                unfold Hid; rw [HZL.out, HZS.out]
                exact HO8.out
              have HZE : Hid (zs.set j (x, y, d) = ys.take j ++ (x, y, d) :: ys.drop j) := by unfold Hid; rw [HZS.out]; exact set_shift ys j (x, y, d) hjlt
              have HB8 : Hid (Below w.heap.size w w8) := by
                have h9 : Below w.heap.size w w7.drew := HA7.out.2.1.trans (Drawn.below ⟨_, rfl⟩ _)
                exact h9.grown HG8.out h9.size (fun q hq => by obtain rfl := Option.some.inj hq; exact hgb7)
              have HK8 := Lib.hid ((HG8.out.block _ (lt_of_block HK7.out.1) (fun e => HK7.out.2 g7 rfl (Option.some.inj e))).trans HK7.out.1)
              have hzl : zs.length = ys.length + 1 := HZL.out
              obtain ⟨c0, c1, c2, hfr, ht3⟩ := triStore okDomino rfl (fun _ => rfl) (cap := c7) (ls := zs) HO8.out (j := j) (by omega)
              obtain ⟨hst, hgr⟩ := ht3 x y d
              rw [List.length_set, hzl] at hst
              have HBN := Lib.hid (HB8.out.grown hgr HB8.out.size (fun q hq => by obtain rfl := Option.some.inj hq; exact hgb7))
              have hle9 := HBN.out.size
              have HN := Lib.hid hst
              have hj7 : (j : Int) < (ys.length : Int) + 1 := by omega
              obtain ⟨h1, h2, h3⟩ := tri_cells HK8.out
              clear hst hgr ht3 hzl
              go_wp2_with fail
              go_roundw
              case rel => exact ⟨k + 1, _, by omega, by go_num, rfl, by rw [HE0.out, ← HZE.out]; exact ⟨HN.out, HBN.out, Nat.le_refl _, hle9⟩⟩
              case measure => simp [intOf]; omega
          · obtain ⟨m, hm⟩ : ∃ m, j = m + 1 := ⟨j - 1, by omega⟩
            have htz : decide (0 < j) = true := by simp only [decide_eq_true_eq]; omega
            have hjm : IntKind.i64.wrap ((j : Int) - 1) = (m : Int) := by rw [IntWalk.i64_in _ (by omega)]; omega
            have hm0 : (0 : Int) ≤ (m : Int) := by omega
            have hml : m < ys.length := by omega
            have hm1 : (m : Int) < (ys.length : Int) := by omega
            have hmj : m < j := by omega
            have HDJ : Hid (downK ys o j = if o < ordL (dAt ys m) then downK ys o m else m + 1) := by unfold Hid; rw [hm]; rfl
            have HQJ : Hid (downK ys o m = q → downK ys o m = q) := fun h => h
            obtain ⟨Ar, cr, hvr, _, _, Gr⟩ := RdT.of (E := elDomino) rfl (fun _ => rfl) (HA4.out.1.rd okDomino)
            obtain ⟨ad1, hA1, hbl1, r1, r2, r3⟩ := Gr.out m hml
            have hAe : A1 = Ar := by simp at hvr; exact hvr.1
            rw [hA1] at hAe
            subst hAe
            clear hvr Gr hA1
            have HDM : Hid (dAt ys m = (lx ys m, ly ys m, ld ys m)) := rfl
            have HOK := Lib.hid (HYS.out.ok hml)
            rw [HDM.out] at HOK
            have hOKM : domB (lx ys m) (ly ys m) (ld ys m) = true := HOK.out
            have hC1 := Lib.hid fun V => order_Z (lx ys m) (ly ys m) (ld ys m) V hOKM
            have HOM : Hid (ordL (dAt ys m) = domO (lx ys m).toNat (ly ys m).toNat (ld ys m)) := rfl
            rw [HOM.out] at HDJ
            have HEQ : Hid (dAt ys m = (lx ys m, ly ys m, ld ys m)) := rfl
            have hk2 := lt_of_block HK2.out
            have hp2 : (ad1.add (m * 3)).block < wr.heap.size := by rw [addBlock]; exact hbl1
            have HL2 := Lib.hid hk2; have HP2 := Lib.hid hp2
            have HS0 : Hid (PrevT wr wr vn x y d (ad1.add (m * 3)) (lx ys m) (ly ys m) (ld ys m)) := ⟨e1, e2, e3, r1, r2, r3, Nat.le_refl _, Below.refl _ _⟩
            clear HOM HOK hOKM HDM hk2 hp2
            generalize domO (lx ys m).toNat (ly ys m).toNat (ld ys m) = n1 at *
            generalize lx ys m = x2 at *
            generalize ly ys m = y2 at *
            generalize ld ys m = d2 at *
            by_cases hgt : o < n1
            · have hcmp : decide (o < n1) = true := by simpa using hgt
              have HJ2 : Hid (downK ys o m = q) := by unfold Hid; rw [← HJ.out, HDJ.out, if_pos hgt]
              clear hgt HDJ hm
              go_wp2_with fail
              go_region_held3 (fun w' => PrevT wr w' vn x y d (ad1.add (m * 3)) x2 y2 d2)
                (first
                  | exact HS0.out.drew
                  | exact PrevT.keep hb1 HL2.out HP2.out (by assumption))
                (first
                  | (go_at_call 136; (with_reducible refine (hC1.out _).mono ?_); rintro e w3 ⟨rfl, hb1⟩)
                  | (go_at_call 136; (with_reducible refine (hC2.out _).mono ?_); rintro e w3 ⟨rfl, hb1⟩))
              have HP3 := Lib.hid (show PrevT wr _ vn x y d (ad1.add (m * 3)) x2 y2 d2 from by assumption)
              have HB3 := Lib.hid (HB.out.trans (HP3.out.2.2.2.2.2.2.2.mono HB.out.size))
              clear e1 e2 e3 r1 r2 r3
              go_wp2_with fail
              go_roundw
              case rel => exact ⟨m, by omega, rfl, HJ2, HB3⟩
              case measure => simp [intOf]; omega
            · have hcmp : decide (o < n1) = false := by simpa using hgt
              have HQM : Hid (q = j) := by unfold Hid; rw [← HJ.out, HDJ.out, if_neg hgt, hm]
              clear hgt HDJ
              have HM1 := Lib.hid hm
              clear hm
              go_wp2_with fail
              go_region_held3 (fun w' => PrevT wr w' vn x y d (ad1.add (m * 3)) x2 y2 d2)
                (first
                  | exact HS0.out.drew
                  | exact PrevT.keep hb1 HL2.out HP2.out (by assumption))
                (first
                  | (go_at_call 136; (with_reducible refine (hC1.out _).mono ?_); rintro e w3 ⟨rfl, hb1⟩)
                  | (go_at_call 136; (with_reducible refine (hC2.out _).mono ?_); rintro e w3 ⟨rfl, hb1⟩))
              have HP3 := Lib.hid (show PrevT wr _ vn x y d (ad1.add (m * 3)) x2 y2 d2 from by assumption)
              clear e1 e2 e3 r1 r2 r3
              obtain ⟨e1, e2, e3, r1, r2, r3, _, hb3⟩ := HP3.out
              have HB3 := Lib.hid hb3
              clear hb3
              by_cases heq : (x2, y2, d2) = (x, y, d)
              · have HE1 : Hid (st (k + 1) = ys) := by
                  unfold Hid; rw [HE.out, HQM.out, if_pos]
                  rw [HM1.out]
                  simp only [Nat.add_sub_cancel, HEQ.out, heq]
                  simp
                simp only [Prod.mk.injEq] at heq
                obtain ⟨rfl, rfl, rfl⟩ := heq
                go_wp2_with fail
                go_quiet (fail)
                have HA9 := Lib.hid (HA4.out.below (HB3.out.trans (Drawn.below ⟨nq, rfl⟩ _)))
                go_wp2_with fail
                go_roundw
                case rel => exact ⟨k + 1, _, by omega, by go_num, rfl, by rw [HE1.out]; exact HA9⟩
                case measure => simp [intOf]; omega
              · have HE0 : Hid (st (k + 1) = ys.take j ++ (x, y, d) :: ys.drop j) := by
                  unfold Hid; rw [HE.out, HQM.out, if_neg]
                  rw [HM1.out]
                  simp only [Nat.add_sub_cancel, HEQ.out]
                  simpa using heq
                have hsq : ∀ W : World, Sem.run Try.prog (binOp .eql 46 (.agg #[.int .i64 x2, .int .i64 y2, .bool d2]) (.agg #[.int .i64 x, .int .i64 y, .bool d])) W = .ok (.bool false) W := fun W => by
                  by_cases h1 : x2 = x
                  · by_cases h2 : y2 = y
                    · have h3 : ¬ d2 = d := fun h => heq (by rw [h1, h2, h])
                      go_simp
                    · go_simp
                  · go_simp
                clear heq HE
                go_wp2_with fail
                go_quiet (fail)
                clear hsq
                obtain ⟨W6, HW6⟩ : ∃ W6, Hid (W6 = World.drewN w3 nq) := ⟨_, rfl⟩
                rw [← HW6.out]
                have HBW : Hid (Below wr.heap.size wr W6) := by unfold Hid; rw [HW6.out]; exact HB3.out.trans (Drawn.below ⟨_, rfl⟩ _)
                have HA6 := Lib.hid (HA4.out.below HBW.out)
                have HK6 := Lib.hid (blk_below HK2.out HBW.out)
                go_wp2_with (at_builtin; refine wpList_push okDomino rfl _ _ rfl HA6.out rfl (0, 0, false) _ rfl _ rfl rfl (by omega) ?_; intro v7 w7 HA7 HG7; obtain ⟨g7, c7, hv7, hgb7, hglt7⟩ := World.ownsRow.form HA7.out.1 (by simp); rw [List.length_append, List.length_singleton] at hv7; subst hv7)
                have hc7 : ys.length + 1 ≤ c7 := by
                  obtain ⟨A9, c9, hv9, q91, q92, _⟩ := HA7.out.1.rd okDomino
                  simp at hv9 q91
                  omega
                have hge : (0 : Int) ≤ (j : Int) + 1 := by omega
                have HK7 := Lib.hid (blk_grew HK6.out HG7.out HOB.out)
                by_cases hjl : j = ys.length
                · have hle : (j : Int) + 1 ≤ (ys.length : Int) + 1 := by omega
                  have hle' : (j : Int) ≤ (ys.length : Int) + 1 := by omega
                  have hmin : Nat.min (ys.length + 1 - j) (ys.length - j) = 0 := by show min _ _ = 0; omega
                  have HJL := Lib.hid hjl
                  clear hjl
                  refine wp_region_held_drew (S := fun _ => True) (by kernel_rfl) (by exact trivial) (fun hHeld => ?_)
                  refine wpAnyH_take (i := 0) (oi := ⟨_, _, _, _, _, _⟩) (v := ?vap29653q1n0) rfl (by kernel_rfl) (by kernel_rfl) (by kernel_rfl) (fun _ _ _ h => h) (Or.inl ⟨by rfl, ?hap29653q1n0⟩) (by assumption) ?_
                  case hap29653q1n0 => (intro w hSw; (try dsimp only at hSw); go_simp; try with_reducible rfl)
                  try simp only [Act.put, List.setIfInBounds_toArray, List.set_cons_zero, List.set_cons_succ]
                  refine wpAnyH_take (i := 1) (oi := ⟨_, _, _, _, _, _⟩) (v := ?vap29653q2n1) rfl (by kernel_rfl) (by kernel_rfl) (by kernel_rfl) (fun _ _ _ h => h) (Or.inl ⟨by rfl, ?hap29653q2n1⟩) (by assumption) ?_
                  case hap29653q2n1 => (intro w hSw; (try dsimp only at hSw); go_simp; try with_reducible rfl)
                  try simp only [Act.put, List.setIfInBounds_toArray, List.set_cons_zero, List.set_cons_succ]
                  refine wpAnyH_take (i := 2) (oi := ⟨_, _, _, _, _, _⟩) (v := ?vap29653q3n2) rfl (by kernel_rfl) (by kernel_rfl) (by kernel_rfl) (fun _ _ _ h => h) (Or.inl ⟨by rfl, ?hap29653q3n2⟩) (by assumption) ?_
                  case hap29653q3n2 => (intro w hSw; (try dsimp only at hSw); go_simp; try with_reducible rfl)
                  try simp only [Act.put, List.setIfInBounds_toArray, List.set_cons_zero, List.set_cons_succ]
                  refine wpAnyH_take (i := 3) (oi := ⟨_, _, _, _, _, _⟩) (v := ?vap29653q4n3) rfl (by kernel_rfl) (by kernel_rfl) (by kernel_rfl) (fun _ _ _ h => h) (Or.inl ⟨by rfl, ?hap29653q4n3⟩) (by assumption) ?_
                  case hap29653q4n3 => (intro w hSw; (try dsimp only at hSw); go_simp; try with_reducible rfl)
                  try simp only [Act.put, List.setIfInBounds_toArray, List.set_cons_zero, List.set_cons_succ]
                  refine wpAnyH_take (i := 4) (oi := ⟨_, _, _, _, _, _⟩) (v := ?vap29653q5n4) rfl (by kernel_rfl) (by kernel_rfl) (by kernel_rfl) (fun _ _ _ h => h) (Or.inl ⟨by rfl, ?hap29653q5n4⟩) (by assumption) ?_
                  case hap29653q5n4 => (intro w hSw; (try dsimp only at hSw); go_simp; try with_reducible rfl)
                  try simp only [Act.put, List.setIfInBounds_toArray, List.set_cons_zero, List.set_cons_succ]
                  refine wpAnyH_take (i := 5) (oi := ⟨_, _, _, _, _, _⟩) (v := ?vap29653q6n5) rfl (by kernel_rfl) (by kernel_rfl) (by kernel_rfl) (fun _ _ _ h => h) (Or.inl ⟨by rfl, ?hap29653q6n5⟩) (by assumption) ?_
                  case hap29653q6n5 => (intro w hSw; (try dsimp only at hSw); go_simp; try with_reducible rfl)
                  try simp only [Act.put, List.setIfInBounds_toArray, List.set_cons_zero, List.set_cons_succ]
                  refine wpAnyH_take (i := 6) (oi := ⟨_, _, _, _, _, _⟩) (v := ?vap29653q7n6) rfl (by kernel_rfl) (by kernel_rfl) (by kernel_rfl) (fun _ _ _ h => h) (Or.inl ⟨by rfl, ?hap29653q7n6⟩) (by assumption) ?_
                  case hap29653q7n6 => (intro w hSw; (try dsimp only at hSw); go_simp; try with_reducible rfl)
                  try simp only [Act.put, List.setIfInBounds_toArray, List.set_cons_zero, List.set_cons_succ]
                  refine wpAnyH_ready (rs := [7]) (by kernel_rfl) (by simp) ?_
                  refine AllReadyH.cons (o := ⟨_, _, _, _, _, _⟩) rfl (fun K hK => ?_) AllReadyH.nil
                  refine step_copyNone okDomino (by rfl) (.tmp 52) (.tmp 55) (by rfl) (by rfl) (by rfl) hmin ?_
                  refine hK.out _ _ (by exact trivial) (fun hHeld => ?_)
                  clear hK K
                  try simp only [Act.put, List.setIfInBounds_toArray, List.set_cons_zero, List.set_cons_succ]
                  refine wpAnyH_done (by kernel_rfl) ?_ _
                  obtain ⟨w8, HW8⟩ : ∃ w8, Hid (w8 = w7.drew) := ⟨_, rfl⟩
                  rw [← HW8.out]
                  obtain ⟨zs, HZS⟩ : ∃ zs, Hid (zs = ys ++ [((0, 0, false) : Lk)]) := ⟨_, rfl⟩
                  have HO8 : Hid (OwnF elDomino w8 w.heap.size (.slice (some ⟨g7, 0, none⟩) zs.length c7) zs) := by
                    unfold Hid; rw [HW8.out, HZS.out, List.length_append, List.length_singleton]
                    exact HA7.out.1
                  have HZL : Hid (zs.length = ys.length + 1) := by rw [HZS.out]; unfold Hid; simp
                  have HZE : Hid (zs.set j (x, y, d) = ys.take j ++ (x, y, d) :: ys.drop j) := by unfold Hid; rw [HZS.out, HJL.out]; simp
                  have HB8 : Hid (Below w.heap.size w w8) := by unfold Hid; rw [HW8.out]; exact HA7.out.2.1.trans (Drawn.below ⟨_, rfl⟩ _)
                  have HK8 := Lib.hid (show w8.heap[_]? = _ from (congrArg (fun q : World => q.heap[_]?) HW8.out).trans HK7.out.1)
                  have hzl : zs.length = ys.length + 1 := HZL.out
                  obtain ⟨c0, c1, c2, hfr, ht3⟩ := triStore okDomino rfl (fun _ => rfl) (cap := c7) (ls := zs) HO8.out (j := j) (by omega)
                  obtain ⟨hst, hgr⟩ := ht3 x y d
                  rw [List.length_set, hzl] at hst
                  have HBN := Lib.hid (HB8.out.grown hgr HB8.out.size (fun q hq => by obtain rfl := Option.some.inj hq; exact hgb7))
                  have hle9 := HBN.out.size
                  have HN := Lib.hid hst
                  have hj7 : (j : Int) < (ys.length : Int) + 1 := by omega
                  obtain ⟨h1, h2, h3⟩ := tri_cells HK8.out
                  clear hst hgr ht3 hzl
                  go_wp2_with fail
                  go_roundw
                  case rel => exact ⟨k + 1, _, by omega, by go_num, rfl, by rw [HE0.out, ← HZE.out]; exact ⟨HN.out, HBN.out, Nat.le_refl _, hle9⟩⟩
                  case measure => simp [intOf]; omega
                · have hle : (j : Int) + 1 ≤ (ys.length : Int) + 1 := by omega
                  have hle' : (j : Int) ≤ (ys.length : Int) + 1 := by omega
                  have hc8 : ¬ c7 = j + 1 := by omega
                  have hc9 : ¬ c7 = j := by omega
                  have hjlt : j < ys.length := by omega
                  clear hjl
                  refine wp_region_held_drew (S := fun _ => True) (by kernel_rfl) (by exact trivial) (fun hHeld => ?_)
                  refine wpAnyH_take (i := 0) (oi := ⟨_, _, _, _, _, _⟩) (v := ?vap29654q1n0) rfl (by kernel_rfl) (by kernel_rfl) (by kernel_rfl) (fun _ _ _ h => h) (Or.inl ⟨by rfl, ?hap29654q1n0⟩) (by assumption) ?_
                  case hap29654q1n0 => (intro w hSw; (try dsimp only at hSw); go_simp; try with_reducible rfl)
                  try simp only [Act.put, List.setIfInBounds_toArray, List.set_cons_zero, List.set_cons_succ]
                  refine wpAnyH_take (i := 1) (oi := ⟨_, _, _, _, _, _⟩) (v := ?vap29654q2n1) rfl (by kernel_rfl) (by kernel_rfl) (by kernel_rfl) (fun _ _ _ h => h) (Or.inl ⟨by rfl, ?hap29654q2n1⟩) (by assumption) ?_
                  case hap29654q2n1 => (intro w hSw; (try dsimp only at hSw); go_simp; try with_reducible rfl)
                  try simp only [Act.put, List.setIfInBounds_toArray, List.set_cons_zero, List.set_cons_succ]
                  refine wpAnyH_take (i := 2) (oi := ⟨_, _, _, _, _, _⟩) (v := ?vap29654q3n2) rfl (by kernel_rfl) (by kernel_rfl) (by kernel_rfl) (fun _ _ _ h => h) (Or.inl ⟨by rfl, ?hap29654q3n2⟩) (by assumption) ?_
                  case hap29654q3n2 => (intro w hSw; (try dsimp only at hSw); go_simp; try with_reducible rfl)
                  try simp only [Act.put, List.setIfInBounds_toArray, List.set_cons_zero, List.set_cons_succ]
                  refine wpAnyH_take (i := 3) (oi := ⟨_, _, _, _, _, _⟩) (v := ?vap29654q4n3) rfl (by kernel_rfl) (by kernel_rfl) (by kernel_rfl) (fun _ _ _ h => h) (Or.inl ⟨by rfl, ?hap29654q4n3⟩) (by assumption) ?_
                  case hap29654q4n3 => (intro w hSw; (try dsimp only at hSw); go_simp; try with_reducible rfl)
                  try simp only [Act.put, List.setIfInBounds_toArray, List.set_cons_zero, List.set_cons_succ]
                  refine wpAnyH_take (i := 4) (oi := ⟨_, _, _, _, _, _⟩) (v := ?vap29654q5n4) rfl (by kernel_rfl) (by kernel_rfl) (by kernel_rfl) (fun _ _ _ h => h) (Or.inl ⟨by rfl, ?hap29654q5n4⟩) (by assumption) ?_
                  case hap29654q5n4 => (intro w hSw; (try dsimp only at hSw); go_simp; try with_reducible rfl)
                  try simp only [Act.put, List.setIfInBounds_toArray, List.set_cons_zero, List.set_cons_succ]
                  refine wpAnyH_take (i := 5) (oi := ⟨_, _, _, _, _, _⟩) (v := ?vap29654q6n5) rfl (by kernel_rfl) (by kernel_rfl) (by kernel_rfl) (fun _ _ _ h => h) (Or.inl ⟨by rfl, ?hap29654q6n5⟩) (by assumption) ?_
                  case hap29654q6n5 => (intro w hSw; (try dsimp only at hSw); go_simp; try with_reducible rfl)
                  try simp only [Act.put, List.setIfInBounds_toArray, List.set_cons_zero, List.set_cons_succ]
                  refine wpAnyH_take (i := 6) (oi := ⟨_, _, _, _, _, _⟩) (v := ?vap29654q7n6) rfl (by kernel_rfl) (by kernel_rfl) (by kernel_rfl) (fun _ _ _ h => h) (Or.inl ⟨by rfl, ?hap29654q7n6⟩) (by assumption) ?_
                  case hap29654q7n6 => (intro w hSw; (try dsimp only at hSw); go_simp; try with_reducible rfl)
                  try simp only [Act.put, List.setIfInBounds_toArray, List.set_cons_zero, List.set_cons_succ]
                  refine wpAnyH_ready (rs := [7]) (by kernel_rfl) (by simp) ?_
                  refine AllReadyH.cons (o := ⟨_, _, _, _, _, _⟩) rfl (fun K hK => ?_) AllReadyH.nil
                  refine step_copyIn okDomino (by rfl) (.tmp 52) (.tmp 55) (by rfl) g7 c7 j (ys.length - j) _ _ w.heap.size ys (0, 0, false) (by rfl) (by rfl) (by rfl) (show OwnF _ w7.drew _ _ _ from HA7.out.1) hjlt ?_
                  intro w8 HO8 HG8
                  refine hK.out _ _ (by exact trivial) (fun hHeld => ?_)
                  clear hK K
                  try simp only [Act.put, List.setIfInBounds_toArray, List.set_cons_zero, List.set_cons_succ]
                  refine wpAnyH_done (by kernel_rfl) ?_ _
                  obtain ⟨zs, HZS⟩ : ∃ zs, Hid (zs = ys.take (j + 1) ++ ys.drop j) := ⟨_, rfl⟩
                  have HZL : Hid (zs.length = ys.length + 1) := by rw [HZS.out]; unfold Hid; simp; omega
                  have HO8 : Hid (OwnF elDomino w8 w.heap.size (.slice (some ⟨g7, 0, none⟩) zs.length c7) zs) := by
                    unfold Hid; rw [HZL.out, HZS.out]
                    exact HO8.out
                  have HZE : Hid (zs.set j (x, y, d) = ys.take j ++ (x, y, d) :: ys.drop j) := by unfold Hid; rw [HZS.out]; exact set_shift ys j (x, y, d) hjlt
                  have HB8 : Hid (Below w.heap.size w w8) := by
                    have h9 : Below w.heap.size w w7.drew := HA7.out.2.1.trans (Drawn.below ⟨_, rfl⟩ _)
                    exact h9.grown HG8.out h9.size (fun q hq => by obtain rfl := Option.some.inj hq; exact hgb7)
                  have HK8 := Lib.hid ((HG8.out.block _ (lt_of_block HK7.out.1) (fun e => HK7.out.2 g7 rfl (Option.some.inj e))).trans HK7.out.1)
                  have hzl : zs.length = ys.length + 1 := HZL.out
                  obtain ⟨c0, c1, c2, hfr, ht3⟩ := triStore okDomino rfl (fun _ => rfl) (cap := c7) (ls := zs) HO8.out (j := j) (by omega)
                  obtain ⟨hst, hgr⟩ := ht3 x y d
                  rw [List.length_set, hzl] at hst
                  have HBN := Lib.hid (HB8.out.grown hgr HB8.out.size (fun q hq => by obtain rfl := Option.some.inj hq; exact hgb7))
                  have hle9 := HBN.out.size
                  have HN := Lib.hid hst
                  have hj7 : (j : Int) < (ys.length : Int) + 1 := by omega
                  obtain ⟨h1, h2, h3⟩ := tri_cells HK8.out
                  clear hst hgr ht3 hzl
                  go_wp2_with fail
                  go_roundw
                  case rel => exact ⟨k + 1, _, by omega, by go_num, rfl, by rw [HE0.out, ← HZE.out]; exact ⟨HN.out, HBN.out, Nat.le_refl _, hle9⟩⟩
                  case measure => simp [intOf]; omega
    · obtain rfl : k = ls.length := by omega
      have ht : decide ((ls.length : Int) < (ls.length : Int)) = false := by simp
      go_wp2_with fail
      go_ret
      exact ⟨_, rfl, HA.out.1, HA.out.2.1⟩
end Go.Proofs.Ytehnbalbpfmijaa

namespace Go.Proofs.Ytehnbalbpfmijaa
open Go.RowKit

/-! ### The plain functions -/
def lkAt (w h x y : Int) : List Lk := (if x + 1 < w then [(x, y, false)] else []) ++ (if y + 1 < h then [(x, y, true)] else [])
def lkRow (w h y : Int) : Nat → List Lk | 0 => [] | x + 1 => lkRow w h y x ++ lkAt w h x y
def lkAll (w h : Int) : Nat → List Lk | 0 => [] | y + 1 => lkAll w h y ++ lkRow w h y w.toNat
def lkFlat (w h : Nat) : Nat → List Lk | 0 => [] | k + 1 => lkFlat w h k ++ lkAt w h ((k % w : Nat) : Int) ((k / w : Nat) : Int)
def linksZ (w h : Int) : List Lk := if gridB w h then lkAll w h h.toNat else []
theorem gridB_iff (x y : Int) : gridB x y = true ↔ (1 ≤ x ∧ x ≤ 4) ∧ 1 ≤ y ∧ y ≤ 4 := by simp [gridB, inB_iff]
theorem all2 {a b : Nat} {p : Nat → Nat → Bool} (h : ((List.range a).all fun x => (List.range b).all fun y => p x y) = true) (x y : Nat) (hx : x < a) (hy : y < b) : p x y = true := by
  rw [List.all_eq_true] at h
  have := h x (by simpa using hx)
  rw [List.all_eq_true] at this
  exact this y (by simpa using hy)
theorem lk_tab : ((List.range 5).all fun w => (List.range 5).all fun h => w == 0 || h == 0 || lkFlat w h (w * h) == lkAll w h h) = true := by decide +kernel
theorem lk_same (w : Nat) (h1 : w ≤ 4) (h : Nat) (h2 : h ≤ 4) (h3 : 1 ≤ w) (h4 : 1 ≤ h) : lkFlat w h (w * h) = lkAll w h h := by
  have := all2 lk_tab w h (by omega) (by omega)
  simp only [Bool.or_eq_true, beq_iff_eq] at this
  rcases this with (e | e) | e
  · omega
  · omega
  · exact e
theorem lkAt_len (w h x y : Int) : (lkAt w h x y).length ≤ 2 := by unfold lkAt; split <;> split <;> simp
theorem lkRow_len (w h y : Int) : ∀ x, (lkRow w h y x).length ≤ 2 * x
  | 0 => by simp [lkRow]
  | x + 1 => by have := lkRow_len w h y x; have := lkAt_len w h x y; simp [lkRow]; omega
theorem linksZ_len (w h : Int) : (linksZ w h).length ≤ 32 := by
  unfold linksZ
  split
  · rename_i hg
    obtain ⟨⟨a1, a2⟩, a3, a4⟩ := (gridB_iff _ _).1 hg
    have : ∀ n : Nat, (lkAll w h n).length ≤ 8 * n := fun n => by
      induction n with
      | zero => simp [lkAll]
      | succ n ih => have := lkRow_len w h n w.toNat; simp [lkAll]; omega
    have := this h.toNat
    omega
  · simp

def RetLinks (w : World) (ls : List Lk) (e : Ending) (w' : World) : Prop := ∃ v, e = .returned v ∧ OwnF elLink w' w.heap.size v ls ∧ Below w.heap.size w w'

set_option maxHeartbeats 4000000 in
theorem LinksOf_yes (n m : Nat) (w : World) (hg : gridB n m = true) :
    Calls Try.prog 111 #[.int .i64 n, .int .i64 m] w (RetLinks w (lkAll n m m)) := by
  obtain ⟨⟨hn1, hn2⟩, hm1, hm2⟩ := (gridB_iff _ _).1 hg
  have HA0 : Hid (Acc elLink w w.heap.size (w.alloc (.cells #[] 68)) (.slice (some ⟨w.heap.size, 0, none⟩) 0 0) []) := Acc.start w
  go_enter Try.func111, Try.ntmps111
  go_wp2_with fail
  refine (GridOk_any _ _ _).mono ?_
  rintro e w1 ⟨rfl, rfl⟩
  rw [hg]
  go_wp2_with fail
  go_loopw [5, 14] (fun o s wr => ∃ (y : Nat) (v : Value) (xs : List Lk), y ≤ m ∧ s = .int .i64 y ∧ o = v ∧ Hid (Acc elLink w w.heap.size wr v xs) ∧ Hid (xs = lkAll n m y) ∧ xs.length ≤ 8 * y) (fun _ s _ => m - (intOf s).toNat)
  case atStart => exact ⟨0, _, [], Nat.zero_le _, rfl, rfl, HA0, rfl, Nat.le_refl _⟩
  case round =>
    obtain ⟨y, v0, xs0, hy, rfl, rfl, HA, HX, hxl⟩ := hrel
    by_cases hlt : y < m
    · have hty : decide ((y : Int) < (m : Int)) = true := by simp only [decide_eq_true_eq]; omega
      have hy1 : (0 : Int) ≤ (y : Int) := by omega
      have hy2 : (y : Int) < 4 := by omega
      go_wp2_with fail
      go_loopw [5, 18] (fun o s wr => ∃ (x : Nat) (v : Value) (xs : List Lk), x ≤ n ∧ s = .int .i64 x ∧ o = v ∧ Hid (Acc elLink w w.heap.size wr v xs) ∧ Hid (xs = xs0 ++ lkRow n m y x) ∧ xs.length ≤ 8 * y + 2 * x) (fun _ s _ => n - (intOf s).toNat)
      case atStart => exact ⟨0, _, xs0, Nat.zero_le _, rfl, rfl, HA, by simp [Hid, lkRow], by omega⟩
      case round =>
        obtain ⟨x, v1, xs1, hx, rfl, rfl, HA1, HX1, hxl1⟩ := hrel
        by_cases hlx : x < n
        · have htx : decide ((x : Int) < (n : Int)) = true := by simp only [decide_eq_true_eq]; omega
          have hx1 : (0 : Int) ≤ (x : Int) := by omega
          have hx2 : (x : Int) < 4 := by omega
          have HS : Hid (xs0 ++ lkRow n m y (x + 1) = xs1 ++ lkAt n m x y) := by unfold Hid; rw [HX1.out, lkRow, List.append_assoc]
          by_cases c1 : (x : Int) + 1 < (n : Int) <;> by_cases c2 : (y : Int) + 1 < (m : Int)
          · have HL : Hid (lkAt n m x y = [((x : Int), (y : Int), false)] ++ [((x : Int), (y : Int), true)]) := by unfold Hid lkAt; rw [if_pos c1, if_pos c2]
            go_wp2_with (at_builtin; first
              | (refine wpList_push okLink rfl _ _ rfl HA1.out rfl ((x : Int), (y : Int), false) _ rfl _ rfl (by simp) (by omega) ?_; intro u2 w2 HA2 HG2)
              | (refine wpList_push okLink rfl _ _ rfl HA2.out rfl ((x : Int), (y : Int), true) _ rfl _ rfl (by simp) (by simp; omega) ?_; intro u3 w3 HA3 HG3))
            go_roundw
            case rel => exact ⟨x + 1, _, _, by omega, by go_num, rfl, HA3, by (unfold Hid; rw [HS.out, HL.out, List.append_assoc]), by simp; omega⟩
            case measure => simp [intOf]; omega
          · have HL : Hid (lkAt n m x y = [((x : Int), (y : Int), false)]) := by unfold Hid lkAt; rw [if_pos c1, if_neg c2]; rfl
            go_wp2_with (at_builtin; refine wpList_push okLink rfl _ _ rfl HA1.out rfl ((x : Int), (y : Int), false) _ rfl _ rfl (by simp) (by omega) ?_; intro u2 w2 HA2 HG2)
            go_roundw
            case rel => exact ⟨x + 1, _, _, by omega, by go_num, rfl, HA2, by (unfold Hid; rw [HS.out, HL.out]), by simp; omega⟩
            case measure => simp [intOf]; omega
          · have HL : Hid (lkAt n m x y = [((x : Int), (y : Int), true)]) := by unfold Hid lkAt; rw [if_neg c1, if_pos c2]; rfl
            go_wp2_with (at_builtin; refine wpList_push okLink rfl _ _ rfl HA1.out rfl ((x : Int), (y : Int), true) _ rfl _ rfl (by simp) (by omega) ?_; intro u2 w2 HA2 HG2)
            go_roundw
            case rel => exact ⟨x + 1, _, _, by omega, by go_num, rfl, HA2, by (unfold Hid; rw [HS.out, HL.out]), by simp; omega⟩
            case measure => simp [intOf]; omega
          · have HL : Hid (lkAt n m x y = []) := by unfold Hid lkAt; rw [if_neg c1, if_neg c2]; rfl
            go_wp2_with fail
            go_roundw
            case rel => exact ⟨x + 1, _, _, by omega, by go_num, rfl, HA1, by (unfold Hid; rw [HS.out, HL.out, List.append_nil]), by omega⟩
            case measure => simp [intOf]; omega
        · have HK : Hid (xs1 = lkAll n m (y + 1)) := by unfold Hid; rw [HX1.out, HX.out, lkAll, show x = ((n : Int)).toNat by omega]
          go_wp2_with fail
          go_roundw
          case rel => exact ⟨y + 1, _, _, by omega, by go_num, rfl, HA1, HK, by omega⟩
          case measure => simp [intOf]; omega
    · have HK : Hid (xs0 = lkAll n m m) := by unfold Hid; rw [HX.out, show y = m by omega]
      go_wp2_with fail
      go_ret
      exact ⟨_, rfl, by rw [← HK.out]; exact HA.out.1, HA.out.2.1⟩

theorem LinksOf_any (a b : Int) (w : World) :
    Calls Try.prog 111 #[.int .i64 a, .int .i64 b] w (RetLinks w (linksZ a b)) := by
  cases hg : gridB a b
  · have e0 : linksZ a b = [] := by simp [linksZ, hg]
    rw [e0]; clear e0
    go_enter Try.func111, Try.ntmps111
    go_wp2_with fail
    refine (GridOk_any _ _ _).mono ?_
    rintro e w1 ⟨rfl, rfl⟩
    rw [hg]
    go_wp2_with fail
    go_ret
    exact ⟨_, rfl, OwnF.nil, Below.refl _ _⟩
  · have hb := (gridB_iff _ _).1 hg
    obtain ⟨n, rfl⟩ := Int.eq_ofNat_of_zero_le (show 0 ≤ a by omega)
    obtain ⟨m, rfl⟩ := Int.eq_ofNat_of_zero_le (show 0 ≤ b by omega)
    have e0 : linksZ n m = lkAll n m m := by simp [linksZ, hg]
    rw [e0]
    exact LinksOf_yes n m w hg

set_option maxHeartbeats 4000000 in
theorem specLinksOf_yes (n m : Nat) (w : World) (hg : gridB n m = true) :
    Calls Try.prog 107 #[.int .i64 n, .int .i64 m] w (RetLinks w (lkAll n m m)) := by
  obtain ⟨⟨hn1, hn2⟩, hm1, hm2⟩ := (gridB_iff _ _).1 hg
  have HA0 : Hid (Acc elLink w w.heap.size (w.alloc (.cells #[] 68)) (.slice (some ⟨w.heap.size, 0, none⟩) 0 0) []) := Acc.start w
  have hnm : n * m ≤ 16 := Nat.mul_le_mul (show n ≤ 4 by omega) (show m ≤ 4 by omega)
  have HNM : Hid (lkFlat n m (n * m) = lkAll n m m) := lk_same n (by omega) m (by omega) (by omega) (by omega)
  generalize hN : n * m = N at *
  have HN : Hid (((n : Int) * (m : Int)) = (N : Int)) := by unfold Hid; rw [← hN, Int.natCast_mul]
  have HN2 := Lib.hid hN
  clear hN
  go_enter Try.func107, Try.ntmps107
  go_wp2_with fail
  go_loopw [5, 6] (fun o s wr => ∃ (k : Nat) (v : Value) (xs : List Lk), k ≤ N ∧ s = .int .i64 k ∧ o = v ∧ Hid (Acc elLink w w.heap.size wr v xs) ∧ Hid (xs = lkFlat n m k) ∧ xs.length ≤ 2 * k) (fun _ s _ => N - (intOf s).toNat)
  case atStart => exact ⟨0, _, [], Nat.zero_le _, rfl, rfl, HA0, rfl, Nat.le_refl _⟩
  case round =>
    obtain ⟨k, v0, xs0, hk, rfl, rfl, HA, HX, hxl⟩ := hrel
    have hw : IntKind.i64.wrap ((n : Int) * (m : Int)) = (N : Int) := by rw [HN.out]; exact IntWalk.i64_in _ (by omega)
    have hk1 : (0 : Int) ≤ (k : Int) := by omega
    by_cases hlt : k < N
    · have htk : decide ((k : Int) < (N : Int)) = true := by simp only [decide_eq_true_eq]; omega
      have hq : k / n < m := (Nat.div_lt_iff_lt_mul (by omega)).2 (by have := HN2.out; rw [Nat.mul_comm] at this; omega)
      have hr : k % n < n := Nat.mod_lt _ (by omega)
      generalize hQ : k / n = q at *
      generalize hR : k % n = r at *
      have hq1 : (k : Int) / (n : Int) = (q : Int) := by rw [← hQ, Int.natCast_ediv]
      have hr1 : (k : Int) % (n : Int) = (r : Int) := by rw [← hR, Int.natCast_emod]
      have HS : Hid (lkFlat n m (k + 1) = xs0 ++ lkAt n m r q) := by unfold Hid; rw [HX.out, lkFlat, hQ, hR]
      clear hQ hR
      by_cases c1 : (r : Int) + 1 < (n : Int) <;> by_cases c2 : (q : Int) + 1 < (m : Int)
      · have HL : Hid (lkAt n m r q = [((r : Int), (q : Int), false)] ++ [((r : Int), (q : Int), true)]) := by unfold Hid lkAt; rw [if_pos c1, if_pos c2]
        go_wp2_with (first
          | (go_at_call 105; refine (specGridOk_any _ _ _).mono ?_; rintro e w1 ⟨rfl, rfl⟩; rw [hg])
          | (at_builtin; refine wpList_push okLink rfl _ _ rfl HA.out rfl ((r : Int), (q : Int), false) _ rfl _ rfl (by simp) (by omega) ?_; intro u2 w2 HA2 HG2)
          | (at_builtin; refine wpList_push okLink rfl _ _ rfl HA2.out rfl ((r : Int), (q : Int), true) _ rfl _ rfl (by simp) (by simp; omega) ?_; intro u3 w3 HA3 HG3))
        go_roundw
        case rel => exact ⟨k + 1, _, _, by omega, by go_num, rfl, HA3, by (unfold Hid; rw [HS.out, HL.out, List.append_assoc]), by simp; omega⟩
        case measure => simp [intOf]; omega
      · have HL : Hid (lkAt n m r q = [((r : Int), (q : Int), false)]) := by unfold Hid lkAt; rw [if_pos c1, if_neg c2]; rfl
        go_wp2_with (first
          | (go_at_call 105; refine (specGridOk_any _ _ _).mono ?_; rintro e w1 ⟨rfl, rfl⟩; rw [hg])
          | (at_builtin; refine wpList_push okLink rfl _ _ rfl HA.out rfl ((r : Int), (q : Int), false) _ rfl _ rfl (by simp) (by omega) ?_; intro u2 w2 HA2 HG2))
        go_roundw
        case rel => exact ⟨k + 1, _, _, by omega, by go_num, rfl, HA2, by (unfold Hid; rw [HS.out, HL.out]), by simp; omega⟩
        case measure => simp [intOf]; omega
      · have HL : Hid (lkAt n m r q = [((r : Int), (q : Int), true)]) := by unfold Hid lkAt; rw [if_neg c1, if_pos c2]; rfl
        go_wp2_with (first
          | (go_at_call 105; refine (specGridOk_any _ _ _).mono ?_; rintro e w1 ⟨rfl, rfl⟩; rw [hg])
          | (at_builtin; refine wpList_push okLink rfl _ _ rfl HA.out rfl ((r : Int), (q : Int), true) _ rfl _ rfl (by simp) (by omega) ?_; intro u2 w2 HA2 HG2))
        go_roundw
        case rel => exact ⟨k + 1, _, _, by omega, by go_num, rfl, HA2, by (unfold Hid; rw [HS.out, HL.out]), by simp; omega⟩
        case measure => simp [intOf]; omega
      · have HL : Hid (lkAt n m r q = []) := by unfold Hid lkAt; rw [if_neg c1, if_neg c2]; rfl
        go_wp2_with (go_at_call 105; refine (specGridOk_any _ _ _).mono ?_; rintro e w1 ⟨rfl, rfl⟩; rw [hg])
        go_roundw
        case rel => exact ⟨k + 1, _, _, by omega, by go_num, rfl, HA, by (unfold Hid; rw [HS.out, HL.out, List.append_nil]), by omega⟩
        case measure => simp [intOf]; omega
    · have HK : Hid (xs0 = lkAll n m m) := by unfold Hid; rw [HX.out, show k = N by omega]; exact HNM.out
      go_wp2_with (go_at_call 105; refine (specGridOk_any _ _ _).mono ?_; rintro e w1 ⟨rfl, rfl⟩; rw [hg])
      go_ret
      exact ⟨_, rfl, by rw [← HK.out]; exact HA.out.1, HA.out.2.1⟩

theorem specLinksOf_any (a b : Int) (w : World) :
    Calls Try.prog 107 #[.int .i64 a, .int .i64 b] w (RetLinks w (linksZ a b)) := by
  cases hg : gridB a b
  · have e0 : linksZ a b = [] := by simp [linksZ, hg]
    rw [e0]; clear e0
    have HA0 : Hid (Acc elLink w w.heap.size (w.alloc (.cells #[] 68)) (.slice (some ⟨w.heap.size, 0, none⟩) 0 0) []) := Acc.start w
    go_enter Try.func107, Try.ntmps107
    go_wp2_with fail
    go_loopw [5, 6] (fun o s wr => o = .slice (some ⟨w.heap.size, 0, none⟩) 0 0 ∧ s = .int .i64 0 ∧ wr = w.alloc (.cells #[] 68)) (fun _ _ _ => 0)
    case atStart => exact ⟨rfl, rfl, rfl⟩
    case round =>
      obtain ⟨rfl, rfl, rfl⟩ := hrel
      go_wp2_with (go_at_call 105; refine (specGridOk_any _ _ _).mono ?_; rintro e w1 ⟨rfl, rfl⟩; rw [hg])
      go_ret
      exact ⟨_, rfl, HA0.out.1, HA0.out.2.1⟩
  · have hb := (gridB_iff _ _).1 hg
    obtain ⟨n, rfl⟩ := Int.eq_ofNat_of_zero_le (show 0 ≤ a by omega)
    obtain ⟨m, rfl⟩ := Int.eq_ofNat_of_zero_le (show 0 ≤ b by omega)
    have e0 : linksZ n m = lkAll n m m := by simp [linksZ, hg]
    rw [e0]
    exact specLinksOf_yes n m w hg
end Go.Proofs.Ytehnbalbpfmijaa

namespace Go.Proofs.Ytehnbalbpfmijaa
open Go.RowKit

def postA (wd : Int) (l : Lk) : Int := l.2.1 * wd + l.1
def postB (wd : Int) (l : Lk) : Int := if l.2.2 then postA wd l + wd else postA wd l + 1
theorem mul_bdP {a b A B : Int} (h1 : 0 ≤ a) (h2 : a ≤ A) (h3 : 0 ≤ b) (h4 : b ≤ B) : 0 ≤ a * b ∧ a * b ≤ A * B :=
  ⟨Int.mul_nonneg h1 h3, Int.mul_le_mul h2 h4 h3 (by omega)⟩
theorem posts_any (wd x y : Int) (d : Bool) (w : World) (h1 : 0 ≤ x) (h2 : x ≤ 64) (h3 : 0 ≤ y) (h4 : y ≤ 64) (h5 : 0 ≤ wd) (h6 : wd ≤ 64) :
    Calls Try.prog 151 #[triV x y d, .int .i64 wd] w fun e w' => e = .returned (.tuple #[.int .i64 (postA wd (x, y, d)), .int .i64 (postB wd (x, y, d))]) ∧ Below w.heap.size w w' := by
  obtain ⟨m1, m2⟩ := mul_bdP h3 h4 h5 h6
  have m3 : y * wd + x ≤ 5000 := by omega
  have m4 : 0 ≤ y * wd + x := by omega
  cases d
  all_goals
    go_enter Try.func151, Try.ntmps151
    go_wp2
    go_ret2
    exact ⟨rfl, (Below.refl _ _).alloc (by (try simp) <;> omega) _⟩
theorem l23Ends_any (wd x y : Int) (d : Bool) (w : World) (h1 : 0 ≤ x) (h2 : x ≤ 64) (h3 : 0 ≤ y) (h4 : y ≤ 64) (h5 : 0 ≤ wd) (h6 : wd ≤ 64) :
    Calls Try.prog 117 #[.int .i64 wd, triV x y d] w fun e w' => e = .returned (.tuple #[.int .i64 (postA wd (x, y, d)), .int .i64 (postB wd (x, y, d))]) ∧ Below w.heap.size w w' := by
  obtain ⟨m1, m2⟩ := mul_bdP h3 h4 h5 h6
  have m3 : y * wd + x ≤ 5000 := by omega
  have m4 : 0 ≤ y * wd + x := by omega
  cases d
  all_goals
    go_enter Try.func117, Try.ntmps117
    go_wp2
    go_ret2
    exact ⟨rfl, (Below.refl _ _).alloc (by (try simp) <;> omega) _⟩
end Go.Proofs.Ytehnbalbpfmijaa

namespace Go.Proofs.Ytehnbalbpfmijaa
open Go.RowKit
set_option linter.unusedVariables false

/-- The first number from k on, among n, with p; -1 if there is none. -/
def fstZ (p : Nat → Bool) : Nat → Nat → Int
  | 0, _ => -1
  | n + 1, k => if p k then (k : Int) else fstZ p n (k + 1)
theorem fstZ_spec (p : Nat → Bool) : ∀ n k, (fstZ p n k = -1 ∧ ∀ i, k ≤ i → i < k + n → p i = false) ∨ ∃ j : Nat, fstZ p n k = (j : Int) ∧ k ≤ j ∧ j < k + n ∧ p j = true ∧ ∀ i, k ≤ i → i < j → p i = false
  | 0, k => .inl ⟨rfl, fun i h1 h2 => by omega⟩
  | n + 1, k => by
    rw [fstZ]
    by_cases h : p k = true
    · rw [if_pos h]; exact .inr ⟨k, rfl, Nat.le_refl _, by omega, h, fun i h1 h2 => by omega⟩
    · rw [if_neg h]
      have hf : p k = false := by simpa using h
      rcases fstZ_spec p n (k + 1) with ⟨h1, h2⟩ | ⟨j, h1, h2, h3, h4, h5⟩
      · refine .inl ⟨h1, fun i q1 q2 => ?_⟩
        by_cases e : i = k
        · rw [e]; exact hf
        · exact h2 i (by omega) (by omega)
      · refine .inr ⟨j, h1, by omega, by omega, h4, fun i q1 q2 => ?_⟩
        by_cases e : i = k
        · rw [e]; exact hf
        · exact h5 i (by omega) q2
def lkEq (ls : List Lk) (x y : Int) (d : Bool) (i : Nat) : Bool := lx ls i == x && (ly ls i == y && ld ls i == d)
set_option maxRecDepth 100000 in
set_option maxHeartbeats 4000000 in
theorem linkIndex_any (v : Value) (ls : List Lk) (x y : Int) (d : Bool) (B : Nat) (w : World) (h : RdF elLink w B v ls) (hB : B ≤ w.heap.size) :
    Calls Try.prog 149 #[v, triV x y d] w fun e w' => e = .returned (.int .i64 (fstZ (lkEq ls x y d) ls.length 0)) ∧ Below w.heap.size w w' := by
  obtain ⟨A, c, rfl, g1, g2, G3⟩ := RdT.of (E := elLink) rfl (fun _ => rfl) h
  unfold maxLen at g2
  clear h
  go_enter Try.func149, Try.ntmps149
  go_wp2_with fail
  obtain ⟨W, hW, k0, hb0⟩ := one_alloc w (.cells #[.int .i64 x, .int .i64 y, .bool d] 68)
  rw [← hW]
  have HK := Lib.hid k0
  have HB0 := Lib.hid hb0
  have hs0 : w.heap.size < W.heap.size := lt_of_block k0
  clear hW k0 hb0
  go_loopw [9] (fun s wr => ∃ k : Nat, k ≤ ls.length ∧ s = .int .i64 k ∧ Hid (Below W.heap.size W wr) ∧ Hid (fstZ (lkEq ls x y d) ls.length 0 = fstZ (lkEq ls x y d) (ls.length - k) k)) (fun s _ => ls.length - (intOf s).toNat)
  case atStart => exact ⟨0, Nat.zero_le _, rfl, Below.refl _ _, rfl⟩
  case round =>
    obtain ⟨k, hk, rfl, HB, HF⟩ := hrel
    by_cases hlt : k < ls.length
    · obtain ⟨ad, rfl, had, hx, hy, hz⟩ := G3.out k hlt
      have hbw := HB0.out.trans (HB.out.mono HB0.out.size)
      have hx' := (hbw.cell (p := ad.add (k * 3)) (by rw [addBlock]; omega)).trans hx
      have hy' := (hbw.cell (p := ⟨(ad.add (k * 3)).block, (ad.add (k * 3)).off + 1, none⟩) (by show (ad.add (k * 3)).block < _; rw [addBlock]; omega)).trans hy
      have hz' := (hbw.cell (p := ⟨(ad.add (k * 3)).block, (ad.add (k * 3)).off + 2, none⟩) (by show (ad.add (k * 3)).block < _; rw [addBlock]; omega)).trans hz
      have hblk := (HB.out.block w.heap.size hs0).trans HK.out
      have ht : decide ((k : Int) < (ls.length : Int)) = true := by simp only [decide_eq_true_eq]; omega
      have hk0 : (0 : Int) ≤ (k : Int) := by omega
      have hk1 : (k : Int) < (ls.length : Int) := by omega
      have hal := (Below.refl wr.heap.size wr).alloc (Nat.le_refl _) (.cells #[.int .i64 (lx ls k), .int .i64 (ly ls k), .bool (ld ls k)] 68)
      have hblk2 := (hal.block w.heap.size (lt_of_block hblk)).trans hblk
      have b0 : (wr.alloc (.cells #[.int .i64 (lx ls k), .int .i64 (ly ls k), .bool (ld ls k)] 68)).cell? ⟨w.heap.size, 0, none⟩ = some (.int .i64 x) := by rw [blk_cell hblk2]; rfl
      have b1 : (wr.alloc (.cells #[.int .i64 (lx ls k), .int .i64 (ly ls k), .bool (ld ls k)] 68)).cell? ⟨w.heap.size, 1, none⟩ = some (.int .i64 y) := by rw [blk_cell hblk2]; rfl
      have b2 : (wr.alloc (.cells #[.int .i64 (lx ls k), .int .i64 (ly ls k), .bool (ld ls k)] 68)).cell? ⟨w.heap.size, 2, none⟩ = some (.bool d) := by rw [blk_cell hblk2]; rfl
      have HBN := Lib.hid (HB.out.trans (hal.mono HB.out.size))
      have HQ := Lib.hid (hbw.trans (hal.mono hbw.size))
      clear hbw hx hy hz hblk hblk2 hal
      have HS : Hid (fstZ (lkEq ls x y d) (ls.length - k) k = if lkEq ls x y d k then (k : Int) else fstZ (lkEq ls x y d) (ls.length - (k + 1)) (k + 1)) := by
        unfold Hid; rw [show ls.length - k = (ls.length - (k + 1)) + 1 by omega, fstZ]
      have HE : Hid (lkEq ls x y d k = (lx ls k == x && (ly ls k == y && ld ls k == d))) := rfl
      generalize lkEq ls x y d k = r at *
      generalize lx ls k = p1 at *
      generalize ly ls k = p2 at *
      generalize ld ls k = p3 at *
      cases r
      · have HS2 : Hid (fstZ (lkEq ls x y d) ls.length 0 = fstZ (lkEq ls x y d) (ls.length - (k + 1)) (k + 1)) := HF.out.trans HS.out
        clear HS HF
        go_wp2_with fail
        all_goals subst_vars
        all_goals first
          | (exfalso; have h9 := HE.out; simp at h9; done)
          | (go_roundw
             case rel => exact ⟨k + 1, by omega, by go_num, HBN, HS2⟩
             case measure => simp [intOf]; omega)
      · have he := HE.out.symm
        simp only [Bool.and_eq_true, beq_iff_eq] at he
        obtain ⟨rfl, rfl, rfl⟩ := he
        have HS2 : Hid (fstZ (lkEq ls p1 p2 p3) ls.length 0 = (k : Int)) := HF.out.trans HS.out
        clear HS HF
        go_wp2_with fail
        go_ret
        exact ⟨ret_int HS2.out.symm, HQ.out⟩
    · have HF2 : Hid (fstZ (lkEq ls x y d) ls.length 0 = -1) := by unfold Hid; rw [HF.out, show ls.length - k = 0 by omega]; rfl
      have ht : decide ((k : Int) < (ls.length : Int)) = false := by simp only [decide_eq_false_iff_not]; omega
      go_wp2_with fail
      go_ret
      exact ⟨ret_int HF2.out.symm, HB0.out.trans (HB.out.mono HB0.out.size)⟩

set_option maxHeartbeats 1000000 in
theorem indexOf_any (v : Value) (zs : List Int) (x : Int) (B : Nat) (w : World) (h : RdI w B v zs) :
    Calls Try.prog 150 #[v, .int .i64 x] w fun e w' => e = .returned (.int .i64 (fstZ (fun i => el zs i == x) zs.length 0)) ∧ w = w' := by
  obtain ⟨A, c, rfl, g1, g2, hr⟩ := h
  unfold maxLen at g2
  have HR := Lib.hid hr
  clear hr
  go_enter Try.func150, Try.ntmps150
  go_wp2_with fail
  go_loop [9] (fun s => ∃ k : Nat, k ≤ zs.length ∧ s = .int .i64 k ∧ Hid (fstZ (fun i => el zs i == x) zs.length 0 = fstZ (fun i => el zs i == x) (zs.length - k) k)) (fun s => zs.length - (intOf s).toNat)
  case atStart => exact ⟨0, Nat.zero_le _, rfl, rfl⟩
  case round =>
    obtain ⟨k, hk, rfl, HF⟩ := hrel
    by_cases hlt : k < zs.length
    · obtain ⟨ad, rfl, had, hc⟩ := HR.out.int hlt
      rw [← el_get _ _ hlt] at hc
      have ht : decide ((k : Int) < (zs.length : Int)) = true := by simp only [decide_eq_true_eq]; omega
      have hk0 : (0 : Int) ≤ (k : Int) := by omega
      have hk1 : (k : Int) < (zs.length : Int) := by omega
      have HS : Hid (fstZ (fun i => el zs i == x) (zs.length - k) k = if el zs k == x then (k : Int) else fstZ (fun i => el zs i == x) (zs.length - (k + 1)) (k + 1)) := by
        unfold Hid; rw [show zs.length - k = (zs.length - (k + 1)) + 1 by omega, fstZ]
      cases he : el zs k == x
      · have HS2 : Hid (fstZ (fun i => el zs i == x) zs.length 0 = fstZ (fun i => el zs i == x) (zs.length - (k + 1)) (k + 1)) := HF.out.trans (by rw [HS.out, he]; rfl)
        clear HS HF
        generalize el zs k = y at *
        go_wp2_with fail
        go_round
        case rel => exact ⟨k + 1, by omega, by go_num, HS2⟩
        case measure => simp [intOf]; omega
      · have HS2 : Hid (fstZ (fun i => el zs i == x) zs.length 0 = (k : Int)) := HF.out.trans (by rw [HS.out, he]; rfl)
        clear HS HF
        generalize el zs k = y at *
        go_wp2_with fail
        go_ret
        exact ⟨ret_int HS2.out.symm, rfl⟩
    · have HF2 : Hid (fstZ (fun i => el zs i == x) zs.length 0 = -1) := by unfold Hid; rw [HF.out, show zs.length - k = 0 by omega]; rfl
      have ht : decide ((k : Int) < (zs.length : Int)) = false := by simp only [decide_eq_false_iff_not]; omega
      go_wp2_with fail
      go_ret
      exact ⟨ret_int HF2.out.symm, rfl⟩
end Go.Proofs.Ytehnbalbpfmijaa

namespace Go.Proofs.Ytehnbalbpfmijaa
open Go.RowKit
set_option linter.unusedVariables false

def hasL (ls : List Lk) (l : Lk) : Bool := decide (0 ≤ fstZ (lkEq ls l.1 l.2.1 l.2.2) ls.length 0)
set_option maxRecDepth 100000 in
set_option maxHeartbeats 2000000 in
theorem hasDomino_any (v : Value) (ls : List Lk) (x y : Int) (d : Bool) (B : Nat) (w : World) (h : RdF elDomino w B v ls) (hB : B ≤ w.heap.size) :
    Calls Try.prog 74 #[v, triV x y d] w fun e w' => e = .returned (.bool (hasL ls (x, y, d))) ∧ Below w.heap.size w w' := by
  obtain ⟨A, c, rfl, g1, g2, G3⟩ := RdT.of (E := elDomino) rfl (fun _ => rfl) h
  unfold maxLen at g2
  clear h
  go_enter Try.func74, Try.ntmps74
  go_wp2_with fail
  obtain ⟨W, hW, k0, hb0⟩ := one_alloc w (.cells #[.int .i64 x, .int .i64 y, .bool d] 46)
  rw [← hW]
  have HK := Lib.hid k0
  have HB0 := Lib.hid hb0
  have hs0 : w.heap.size < W.heap.size := lt_of_block k0
  clear hW k0 hb0
  go_loopw [9] (fun s wr => ∃ k : Nat, k ≤ ls.length ∧ s = .int .i64 k ∧ Hid (Below W.heap.size W wr) ∧ Hid (fstZ (lkEq ls x y d) ls.length 0 = fstZ (lkEq ls x y d) (ls.length - k) k)) (fun s _ => ls.length - (intOf s).toNat)
  case atStart => exact ⟨0, Nat.zero_le _, rfl, Below.refl _ _, rfl⟩
  case round =>
    obtain ⟨k, hk, rfl, HB, HF⟩ := hrel
    by_cases hlt : k < ls.length
    · obtain ⟨ad, rfl, had, hx, hy, hz⟩ := G3.out k hlt
      have hbw := HB0.out.trans (HB.out.mono HB0.out.size)
      have hx' := (hbw.cell (p := ad.add (k * 3)) (by rw [addBlock]; omega)).trans hx
      have hy' := (hbw.cell (p := ⟨(ad.add (k * 3)).block, (ad.add (k * 3)).off + 1, none⟩) (by show (ad.add (k * 3)).block < _; rw [addBlock]; omega)).trans hy
      have hz' := (hbw.cell (p := ⟨(ad.add (k * 3)).block, (ad.add (k * 3)).off + 2, none⟩) (by show (ad.add (k * 3)).block < _; rw [addBlock]; omega)).trans hz
      have hblk := (HB.out.block w.heap.size hs0).trans HK.out
      have ht : decide ((k : Int) < (ls.length : Int)) = true := by simp only [decide_eq_true_eq]; omega
      have hk0 : (0 : Int) ≤ (k : Int) := by omega
      have hk1 : (k : Int) < (ls.length : Int) := by omega
      have hal := (Below.refl wr.heap.size wr).alloc (Nat.le_refl _) (.cells #[.int .i64 (lx ls k), .int .i64 (ly ls k), .bool (ld ls k)] 46)
      have hblk2 := (hal.block w.heap.size (lt_of_block hblk)).trans hblk
      have b0 : (wr.alloc (.cells #[.int .i64 (lx ls k), .int .i64 (ly ls k), .bool (ld ls k)] 46)).cell? ⟨w.heap.size, 0, none⟩ = some (.int .i64 x) := by rw [blk_cell hblk2]; rfl
      have b1 : (wr.alloc (.cells #[.int .i64 (lx ls k), .int .i64 (ly ls k), .bool (ld ls k)] 46)).cell? ⟨w.heap.size, 1, none⟩ = some (.int .i64 y) := by rw [blk_cell hblk2]; rfl
      have b2 : (wr.alloc (.cells #[.int .i64 (lx ls k), .int .i64 (ly ls k), .bool (ld ls k)] 46)).cell? ⟨w.heap.size, 2, none⟩ = some (.bool d) := by rw [blk_cell hblk2]; rfl
      have HBN := Lib.hid (HB.out.trans (hal.mono HB.out.size))
      have HQ := Lib.hid (hbw.trans (hal.mono hbw.size))
      clear hbw hx hy hz hblk hblk2 hal
      have HS : Hid (fstZ (lkEq ls x y d) (ls.length - k) k = if lkEq ls x y d k then (k : Int) else fstZ (lkEq ls x y d) (ls.length - (k + 1)) (k + 1)) := by
        unfold Hid; rw [show ls.length - k = (ls.length - (k + 1)) + 1 by omega, fstZ]
      have HE : Hid (lkEq ls x y d k = (lx ls k == x && (ly ls k == y && ld ls k == d))) := rfl
      generalize lkEq ls x y d k = r at *
      generalize lx ls k = p1 at *
      generalize ly ls k = p2 at *
      generalize ld ls k = p3 at *
      cases r
      · have HS2 : Hid (fstZ (lkEq ls x y d) ls.length 0 = fstZ (lkEq ls x y d) (ls.length - (k + 1)) (k + 1)) := HF.out.trans HS.out
        clear HS HF
        go_wp2_with fail
        all_goals subst_vars
        all_goals first
          | (exfalso; have h9 := HE.out; simp at h9; done)
          | (go_roundw
             case rel => exact ⟨k + 1, by omega, by go_num, HBN, HS2⟩
             case measure => simp [intOf]; omega)
      · have he := HE.out.symm
        simp only [Bool.and_eq_true, beq_iff_eq] at he
        obtain ⟨rfl, rfl, rfl⟩ := he
        have HS2 : Hid (true = hasL ls (p1, p2, p3)) := by
          unfold Hid hasL
          rw [show fstZ (lkEq ls p1 p2 p3) ls.length 0 = (k : Int) from HF.out.trans HS.out]
          simp
        clear HS HF
        go_wp2_with fail
        go_ret
        exact ⟨ret_bool HS2.out, HQ.out⟩
    · have HF2 : Hid (false = hasL ls (x, y, d)) := by
        unfold Hid hasL
        rw [HF.out, show ls.length - k = 0 by omega]
        rfl
      have ht : decide ((k : Int) < (ls.length : Int)) = false := by simp only [decide_eq_false_iff_not]; omega
      go_wp2_with fail
      go_ret
      exact ⟨ret_bool HF2.out, HB0.out.trans (HB.out.mono HB0.out.size)⟩

set_option maxRecDepth 100000 in
set_option maxHeartbeats 2000000 in
theorem l11Has_any (v : Value) (ls : List Lk) (x y : Int) (d : Bool) (B : Nat) (w : World) (h : RdF elDomino w B v ls) (hB : B ≤ w.heap.size) :
    Calls Try.prog 154 #[v, triV x y d] w fun e w' => e = .returned (.int .i64 (fstZ (lkEq ls x y d) ls.length 0)) ∧ Below w.heap.size w w' := by
  obtain ⟨A, c, rfl, g1, g2, G3⟩ := RdT.of (E := elDomino) rfl (fun _ => rfl) h
  unfold maxLen at g2
  clear h
  go_enter Try.func154, Try.ntmps154
  go_wp2_with fail
  obtain ⟨W, hW, k0, hb0⟩ := one_alloc w (.cells #[.int .i64 x, .int .i64 y, .bool d] 46)
  rw [← hW]
  have HK := Lib.hid k0
  have HB0 := Lib.hid hb0
  have hs0 : w.heap.size < W.heap.size := lt_of_block k0
  clear hW k0 hb0
  go_loopw [5] (fun s wr => ∃ k : Nat, k ≤ ls.length ∧ s = .int .i64 k ∧ Hid (Below W.heap.size W wr) ∧ Hid (fstZ (lkEq ls x y d) ls.length 0 = fstZ (lkEq ls x y d) (ls.length - k) k)) (fun s _ => ls.length - (intOf s).toNat)
  case atStart => exact ⟨0, Nat.zero_le _, rfl, Below.refl _ _, rfl⟩
  case round =>
    obtain ⟨k, hk, rfl, HB, HF⟩ := hrel
    by_cases hlt : k < ls.length
    · obtain ⟨ad, rfl, had, hx, hy, hz⟩ := G3.out k hlt
      have hbw := HB0.out.trans (HB.out.mono HB0.out.size)
      have hx' := (hbw.cell (p := ad.add (k * 3)) (by rw [addBlock]; omega)).trans hx
      have hy' := (hbw.cell (p := ⟨(ad.add (k * 3)).block, (ad.add (k * 3)).off + 1, none⟩) (by show (ad.add (k * 3)).block < _; rw [addBlock]; omega)).trans hy
      have hz' := (hbw.cell (p := ⟨(ad.add (k * 3)).block, (ad.add (k * 3)).off + 2, none⟩) (by show (ad.add (k * 3)).block < _; rw [addBlock]; omega)).trans hz
      have hblk := (HB.out.block w.heap.size hs0).trans HK.out
      have ht : decide ((k : Int) < (ls.length : Int)) = true := by simp only [decide_eq_true_eq]; omega
      have hk0 : (0 : Int) ≤ (k : Int) := by omega
      have hk1 : (k : Int) < (ls.length : Int) := by omega
      obtain ⟨b0, b1, b2⟩ := tri_cells (t := 46) hblk
      have HQ := Lib.hid hbw
      clear hbw hx hy hz hblk
      have HS : Hid (fstZ (lkEq ls x y d) (ls.length - k) k = if lkEq ls x y d k then (k : Int) else fstZ (lkEq ls x y d) (ls.length - (k + 1)) (k + 1)) := by
        unfold Hid; rw [show ls.length - k = (ls.length - (k + 1)) + 1 by omega, fstZ]
      have HE : Hid (lkEq ls x y d k = (lx ls k == x && (ly ls k == y && ld ls k == d))) := rfl
      generalize lkEq ls x y d k = r at *
      generalize lx ls k = p1 at *
      generalize ly ls k = p2 at *
      generalize ld ls k = p3 at *
      cases r
      · have HS2 : Hid (fstZ (lkEq ls x y d) ls.length 0 = fstZ (lkEq ls x y d) (ls.length - (k + 1)) (k + 1)) := HF.out.trans HS.out
        have hsq : ∀ W : World, Sem.run Try.prog (binOp .eql 46 (.agg #[.int .i64 p1, .int .i64 p2, .bool p3]) (.agg #[.int .i64 x, .int .i64 y, .bool d])) W = .ok (.bool false) W := fun W => by
          have h9 := HE.out
          by_cases h1 : p1 = x
          · by_cases h2 : p2 = y
            · have h3 : ¬ p3 = d := fun h => by rw [h1, h2, h] at h9; simp at h9
              go_simp
            · go_simp
          · go_simp
        clear HS HF HE
        go_wp2_with fail
        go_quiet (fail)
        have HB9 := Lib.hid (HB.out.trans (Drawn.below ⟨nq, rfl⟩ _))
        go_wp2_with fail
        go_roundw
        case rel => exact ⟨k + 1, by omega, by go_num, HB9, HS2⟩
        case measure => simp [intOf]; omega
      · have he := HE.out.symm
        simp only [Bool.and_eq_true, beq_iff_eq] at he
        obtain ⟨rfl, rfl, rfl⟩ := he
        have HS2 : Hid (fstZ (lkEq ls p1 p2 p3) ls.length 0 = (k : Int)) := HF.out.trans HS.out
        clear HS HF
        go_wp2_with fail
        go_quiet (fail)
        have HQ9 := Lib.hid (HQ.out.trans (Drawn.below ⟨nq, rfl⟩ _))
        go_wp2_with fail
        go_ret
        exact ⟨ret_int HS2.out.symm, HQ9.out⟩
    · have HF2 : Hid (fstZ (lkEq ls x y d) ls.length 0 = -1) := by unfold Hid; rw [HF.out, show ls.length - k = 0 by omega]; rfl
      have ht : decide ((k : Int) < (ls.length : Int)) = false := by simp only [decide_eq_false_iff_not]; omega
      go_wp2_with fail
      go_ret
      exact ⟨ret_int HF2.out.symm, HB0.out.trans (HB.out.mono HB0.out.size)⟩

end Go.Proofs.Ytehnbalbpfmijaa

namespace Go.Proofs.Ytehnbalbpfmijaa
open Go.RowKit

def duoC (l : Int × Int) : List Value := [.int .i64 l.1, .int .i64 l.2]
theorem duoC_one : ∀ (x : Int × Int), ∀ u ∈ duoC x, u.oneCell' = true := fun x u hu => by simp [duoC] at hu; rcases hu with rfl | rfl <;> rfl
def elCell : El (Int × Int) := ⟨44, 36, 2, 16, .agg #[.int .i64 0, .int .i64 0], duoC⟩
theorem okCell : elCell.Ok Try.prog := ⟨Try.underlying36, by kernel_rfl, rfl, by decide, by decide, fun _ => rfl, duoC_one⟩
def dx (ls : List (Int × Int)) (j : Nat) : Int := (ls.getD j (0, 0)).1
def dy (ls : List (Int × Int)) (j : Nat) : Int := (ls.getD j (0, 0)).2
theorem duo_get (ls : List (Int × Int)) (j : Nat) (h : j < ls.length) : ls[j]? = some (dx ls j, dy ls j) := by simp [dx, dy, h]
theorem addOne2 (a : Addr) : (⟨a.block, a.off + 1, none⟩ : Addr) = a.add 1 := by simp [Addr.add]
theorem RdD.of {E : El (Int × Int)} {w : World} {B : Nat} {v : Value} {ls : List (Int × Int)} (hs : E.s = 2) (hf : ∀ l, E.f l = duoC l) (h : RdF E w B v ls) :
    ∃ A c, v = .slice A ls.length c ∧ ls.length ≤ c ∧ c ≤ maxLen ∧ Hid (∀ j, j < ls.length → ∃ ad, A = some ad ∧ ad.block < B ∧ w.cell? (ad.add (j * 2)) = some (.int .i64 (dx ls j)) ∧
      w.cell? ⟨(ad.add (j * 2)).block, (ad.add (j * 2)).off + 1, none⟩ = some (.int .i64 (dy ls j))) := by
  obtain ⟨A, c, e, h1, h2, h3⟩ := h
  refine ⟨A, c, e, h1, h2, fun j hj => ?_⟩
  obtain ⟨ad, e2, hb, hc⟩ := h3 j _ (duo_get ls j hj)
  rw [hf, hs] at hc
  refine ⟨ad, e2, hb, hc 0 _ rfl, ?_⟩
  rw [addOne2, addAdd]; exact hc 1 _ rfl

abbrev FourS (w w' : World) (p q : Addr) (x y : Int) : Prop :=
  w'.cell? p = some (.int .i64 x) ∧ w'.cell? ⟨p.block, p.off + 1, none⟩ = some (.int .i64 y) ∧
  w'.cell? q = some (.int .i64 x) ∧ w'.cell? ⟨q.block, q.off + 1, none⟩ = some (.int .i64 y) ∧ w.heap.size ≤ w'.heap.size ∧ Below w.heap.size w w'
theorem keepFourB {w W0 w1 : World} {p q : Addr} {x y : Int} (hb : Below W0.heap.size W0 w1) (hp : p.block < w.heap.size) (hq : q.block < w.heap.size) (h : FourS w W0 p q x y) : FourS w w1 p q x y := by
  obtain ⟨h1, h2, h4, h5, h7, h8⟩ := h
  exact ⟨(hb.cell (by omega)).trans h1, (hb.cell (p := ⟨p.block, p.off + 1, none⟩) (by show p.block < _; omega)).trans h2, (hb.cell (by omega)).trans h4, (hb.cell (p := ⟨q.block, q.off + 1, none⟩) (by show q.block < _; omega)).trans h5, Nat.le_trans h7 hb.size, h8.trans (hb.mono h7)⟩
theorem drewFourB {w W0 : World} {p q : Addr} {x y : Int} (h : FourS w W0 p q x y) : FourS w W0.drew p q x y := by
  obtain ⟨h1, h2, h4, h5, h7, h8⟩ := h
  exact ⟨h1, h2, h4, h5, h7, h8.drew⟩

/-! ### The marks -/
def duoMk (k : Int) (i : Nat) : Int × Int := (k + 2 * (i : Int), k + 2 * (i : Int) + 1)
def duoIota (k : Int) (n : Nat) : List (Int × Int) := (List.range n).map (duoMk k)
theorem duoIota_length (k : Int) (n : Nat) : (duoIota k n).length = n := by simp [duoIota]
theorem duoIota_x (k : Int) (n j : Nat) (h : j < n) : dx (duoIota k n) j = k + 2 * (j : Int) := by simp [dx, duoIota, h, duoMk]
theorem duoIota_y (k : Int) (n j : Nat) (h : j < n) : dy (duoIota k n) j = k + 2 * (j : Int) + 1 := by simp [dy, duoIota, h, duoMk]
def duoTo (ls : List (Int × Int)) (k : Int) (j : Nat) : List (Int × Int) := (List.range ls.length).map fun (i : Nat) => if i < j then duoMk k i else ls.getD i (0, 0)
theorem duoTo_length (ls : List (Int × Int)) (k : Int) (j : Nat) : (duoTo ls k j).length = ls.length := by simp [duoTo]
theorem duoTo_zero (ls : List (Int × Int)) (k : Int) : duoTo ls k 0 = ls := by
  apply List.ext_getElem
  · exact duoTo_length _ _ _
  · intro i h1 h2; simp [duoTo, h2]
theorem duoTo_all (ls : List (Int × Int)) (k : Int) : duoTo ls k ls.length = duoIota k ls.length := by
  unfold duoTo duoIota
  apply List.map_congr_left
  intro i hi
  rw [if_pos (by simpa using hi)]
theorem duoTo_set (ls : List (Int × Int)) (k : Int) (j : Nat) (_h : j < ls.length) : (duoTo ls k j).set j (k + 2 * (j : Int), k + 2 * (j : Int) + 1) = duoTo ls k (j + 1) := by
  apply List.ext_getElem
  · simp [duoTo]
  · intro i h1 h2
    rw [List.getElem_set]
    by_cases e : j = i
    · subst e; simp [duoTo, duoMk]
    · by_cases e2 : i < j
      · simp [duoTo, e, e2, show i < j + 1 by omega]
      · simp [duoTo, e, e2, show ¬ i < j + 1 by omega]
/-- One struct is written, field by field. -/
theorem duoStore {P : Program} {E : El (Int × Int)} (hE : E.Ok P) (hs : E.s = 2) (hf : ∀ l, E.f l = duoC l) {w : World} {lo g cap : Nat} {ls : List (Int × Int)} (h : OwnF E w lo (.slice (some ⟨g, 0, none⟩) ls.length cap) ls) {j : Nat} (hj : j < ls.length) :
    w.cell? ⟨g, j * 2, none⟩ = some (.int .i64 (dx ls j)) ∧ w.cell? ⟨g, j * 2 + 1, none⟩ = some (.int .i64 (dy ls j)) ∧ (∀ o, w.frozen? ⟨g, o, none⟩ = false) ∧
      ∀ (a b : Int), OwnF E ((w.setCell ⟨g, j * 2, none⟩ (.int .i64 a)).setCell ⟨g, j * 2 + 1, none⟩ (.int .i64 b)) lo (.slice (some ⟨g, 0, none⟩) (ls.set j (a, b)).length cap) (ls.set j (a, b)) ∧
        w.grownBy ((w.setCell ⟨g, j * 2, none⟩ (.int .i64 a)).setCell ⟨g, j * 2 + 1, none⟩ (.int .i64 b)) (some g) := by
  have hc : ∀ i u, (duoC (dx ls j, dy ls j))[i]? = some u → w.cell? ⟨g, j * 2 + i, none⟩ = some u := fun i u hu => by
    have hi : i < 2 := (List.getElem?_eq_some_iff.1 hu).1
    have := World.ownsRow.cellAt h (j * 2 + i) (by rw [hs]; omega)
    rw [this, ← hs, flat_get hE.len ls j i _ (duo_get ls j hj) (by omega), hf]; exact hu
  refine ⟨hc 0 _ rfl, hc 1 _ rfl, World.ownsRow.frozenAt h, fun a b => ?_⟩
  obtain ⟨s1, t1, _⟩ := OwnF.store hE (x' := (a, dy ls j)) (u := .int .i64 a) h (duo_get ls j hj) (i := 0) (by omega) (by rw [hf, hf]; rfl)
  obtain ⟨s2, t2, _⟩ := OwnF.store hE (x' := (a, b)) (x := (a, dy ls j)) (u := .int .i64 b) s1 (j := j) (by simp [hj]) (i := 1) (by omega) (by rw [hf, hf]; rfl)
  rw [hs] at s2 t1 t2
  simp only [List.set_set, Nat.add_zero] at s2 t1 t2
  exact ⟨s2, t1.trans t2⟩
end Go.Proofs.Ytehnbalbpfmijaa
