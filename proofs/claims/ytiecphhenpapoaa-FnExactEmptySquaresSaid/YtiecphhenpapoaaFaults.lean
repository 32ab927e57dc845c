/- The lines that no domino crosses, in the program. -/
import Derived.Test.YtiecphhenpapoaaTileLaw
namespace Go.Proofs.Ytiecphhenpapoaa
open Go.RowKit
set_option linter.unusedVariables false

/-- Line k is not crossed by a domino. -/
def okD (down : Bool) (k : Nat) (l : Lk) : Bool := if l.2.2 == down then true else if down then l.1 != (k : Int) - 1 else l.2.1 != (k : Int) - 1
def freeTo (down : Bool) (k : Nat) (ls : List Lk) : Nat → Bool
  | 0 => true
  | i + 1 => freeTo down k ls i && okD down k (dAt ls i)
def fltTo (down : Bool) (ls : List Lk) : Nat → List Int
  | 0 => []
  | k + 1 => fltTo down ls k ++ (if freeTo down (k + 1) ls ls.length then [((k + 1 : Nat) : Int)] else [])
theorem fltTo_len (down : Bool) (ls : List Lk) : ∀ k, (fltTo down ls k).length ≤ k
  | 0 => by simp [fltTo]
  | k + 1 => by have := fltTo_len down ls k; rw [fltTo]; split <;> simp <;> omega
def fltB (a b : Int) (ls : List Lk) : Bool := inB a 1 8 && inB b 1 8 && sTileB (setZ (rectZ a.toNat b.toNat)) ls
def fltZ (a b m : Int) (down : Bool) (ls : List Lk) : List Int := if fltB a b ls then fltTo down ls (m.toNat - 1) else []

set_option maxRecDepth 100000 in
set_option maxHeartbeats 4000000 in
/-- Behind the test. -/
theorem faults_yes (a b : Nat) (v : Value) (ls : List Lk) (m : Nat) (down : Bool) (B : Nat) (w : World) (h : RdF elDomino w B v ls) (hB : B ≤ w.heap.size) (ha : 1 ≤ a ∧ a ≤ 8) (hb : 1 ≤ b ∧ b ≤ 8) (hm : 1 ≤ m ∧ m ≤ 8) (ht : sTileB (setZ (rectZ a b)) ls = true) :
    Calls Try.prog 84 #[.int .i64 (a : Int), .int .i64 (b : Int), v, .int .i64 (m : Int), .bool down] w fun e w' => ∃ u, e = .returned u ∧ OwnI w' w.heap.size u (fltTo down ls (m - 1)) ∧ Below w.heap.size w w' := by
  have HV := Lib.hid h
  obtain ⟨A, c, rfl, g1, g2, G3⟩ := RdT.of (E := elDomino) rfl (fun _ => rfl) h
  unfold maxLen at g2
  clear h
  have t1 : inB (a : Int) 1 8 = true := inB_true (by omega) (by omega)
  have t2 : inB (b : Int) 1 8 = true := inB_true (by omega) (by omega)
  have hok := rectZ_ok a b ha.2 hb.2
  have HT : Hid (tileB (setZ (rectZ a b)) ls = true) := by unfold Hid; rw [tile_eq (setZ_lt hok)]; exact ht
  have HOK := Lib.hid hok
  clear hok ht
  go_enter Try.func84, Try.ntmps84
  go_wp2_with fail
  refine (within_any _ _ _ _).mono ?_
  rintro e w' ⟨rfl, rfl⟩
  rw [t1]
  go_wp2_with fail
  refine (within_any _ _ _ _).mono ?_
  rintro e w' ⟨rfl, rfl⟩
  rw [t2]
  go_wp2_with fail
  refine (Rectangle_yes a b ha hb _).mono ?_
  rintro e w1 ⟨u1, rfl, hr1, hb1⟩
  have HR1 := Lib.hid hr1
  have HB1 := Lib.hid hb1
  clear hb1 hr1
  go_wp2_with fail
  refine (IsTiling_yes _ _ _ ls _ _ HR1.out ((HV.out.below (HB1.out.mono hB)).more (Nat.le_trans hB HB1.out.size)) (Nat.le_refl _) HOK.out).mono ?_
  rintro e w2 ⟨rfl, hb2⟩
  rw [HT.out]
  have HB2 := Lib.hid (HB1.out.trans (hb2.mono HB1.out.size))
  clear hb2
  have HA0 : Hid (Acc elInt w w.heap.size (w2.alloc (.cells #[] 3)) (.slice (some ⟨w2.heap.size, 0, none⟩) 0 0) []) := by
    have := Acc.startAt (E := elInt) HB2.out (Nat.le_refl _) HB2.out.size
    exact this
  go_wp2_with fail
  go_loopw [11, 12] (fun o i wr => ∃ (k : Nat) (u : Value), k + 1 ≤ m ∧ i = .int .i64 ((k + 1 : Nat) : Int) ∧ u = o ∧ Hid (Acc elInt w w.heap.size wr u (fltTo down ls k))) (fun _ i _ => m - (intOf i).toNat)
  case atStart => exact ⟨0, _, hm.1, rfl, rfl, HA0⟩
  case round =>
    obtain ⟨k, u, hk, rfl, rfl, HA⟩ := hrel
    obtain ⟨A1, ca, hv, q1, q2, _⟩ := HA.out.1.rd okInt
    subst hv
    unfold maxLen at q2
    have hfl := fltTo_len down ls k
    have HNX : Hid (fltTo down ls (k + 1) = fltTo down ls k ++ (if freeTo down (k + 1) ls ls.length then [((k + 1 : Nat) : Int)] else [])) := rfl
    have HZK : Hid (∀ q, q = k → fltTo down ls q = fltTo down ls k) := fun q e => by rw [e]
    generalize fltTo down ls k = zs at *
    have hk1 : IntKind.i64.wrap (((k + 1 : Nat) : Int) - 1) = (k : Int) := by rw [IntWalk.i64_in _ (by omega)]; omega
    by_cases hlt : k + 1 < m
    · have ht : decide (((k + 1 : Nat) : Int) < (m : Int)) = true := by simp only [decide_eq_true_eq]; omega
      have hk2 : IntKind.i64.wrap (((k + 1 : Nat) : Int) + 1) = ((k + 2 : Nat) : Int) := by rw [IntWalk.i64_in _ (by omega)]; omega
      have HK2 := Lib.hid hk2
      have HOD : Hid (∀ i, okD down (k + 1) (dAt ls i) = (if ld ls i == down then true else if down then lx ls i != (k : Int) else ly ls i != (k : Int))) := fun i => by
        unfold okD; rw [show (((k + 1 : Nat) : Int) - 1) = (k : Int) by omega]; rfl
      have hz8 : zs.length ≤ 8 := by omega
      obtain ⟨n1, HN1⟩ : ∃ n1 : Nat, Hid (n1 = k + 1) := ⟨_, rfl⟩
      rw [← HN1.out] at ht hk1 HNX HOD HK2 hlt hk hk2
      rw [← HN1.out]
      have hn8 : n1 ≤ 8 := by omega
      clear hk2
      go_wp2_with fail
      go_loopw [13, 40] (fun f i wr2 => ∃ (j : Nat), j ≤ ls.length ∧ i = .int .i64 j ∧ f = .bool (freeTo down n1 ls j) ∧ Hid (Acc elInt w w.heap.size wr2 (.slice A1 zs.length ca) zs)) (fun _ i _ => ls.length - (intOf i).toNat)
      case atStart => exact ⟨0, Nat.zero_le _, rfl, rfl, HA⟩
      case round =>
        obtain ⟨j, hj, rfl, rfl, HA2⟩ := hrel
        have HFR : Hid (freeTo down n1 ls (j + 1) = (freeTo down n1 ls j && okD down n1 (dAt ls j))) := rfl
        by_cases hjl : j < ls.length
        · have htj : decide ((j : Int) < (ls.length : Int)) = true := by simp only [decide_eq_true_eq]; omega
          obtain ⟨ad, rfl, hbl, hx, hy, hz⟩ := G3.out j hjl
          have hbl2 : (ad.add (j * 3)).block < w.heap.size := by rw [addBlock]; omega
          have hbw := HA2.out.2.1
          have hx' := (hbw.cell (p := ad.add (j * 3)) hbl2).trans hx
          have hy' := (hbw.cell (p := ⟨(ad.add (j * 3)).block, (ad.add (j * 3)).off + 1, none⟩) hbl2).trans hy
          have hz' := (hbw.cell (p := ⟨(ad.add (j * 3)).block, (ad.add (j * 3)).off + 2, none⟩) hbl2).trans hz
          rw [HOD.out j] at HFR
          have hj0 : (0 : Int) ≤ (j : Int) := by omega
          have hj1 : (j : Int) < (ls.length : Int) := by omega
          generalize lx ls j = x at *
          generalize ly ls j = y at *
          generalize ld ls j = d at *
          generalize freeTo down n1 ls j = f at *
          clear hx hy hz hbw
          go_upto_region 11 with (fail)
          obtain ⟨V, hV, k1, hbV⟩ := one_alloc wr (triO x y d 58)
          rw [← hV]
          have HA3 := Lib.hid (HA2.out.below hbV)
          obtain ⟨f0, f1, f2, _⟩ := OneT.of k1
          clear hV k1 hbV hx' hy' hz'
          cases f
          · have HE : Hid (freeTo down n1 ls (j + 1) = false) := HFR.out
            clear HFR
            go_wp2_with fail
            go_roundw
            case rel => exact ⟨j + 1, by omega, by go_num, by rw [HE.out], HA3⟩
            case measure => simp [intOf]; omega
          · rw [Bool.true_and] at HFR
            cases hx9 : (x != (k : Int)) <;> cases hy9 : (y != (k : Int)) <;> cases d <;> cases down
            all_goals
              have HE := HFR.out
              simp only [hx9, hy9, BEq.rfl, if_true, Bool.false_eq_true, if_false, beq_iff_eq, reduceCtorEq] at HE
              have HE := Lib.hid HE
              clear HFR HNX HOD
              go_wp2_with fail
              go_roundw
              case rel => exact ⟨j + 1, by omega, by go_num, by rw [HE.out], HA3⟩
              case measure => simp [intOf]; omega
        · have htj : decide ((j : Int) < (ls.length : Int)) = false := by simp only [decide_eq_false_iff_not]; omega
          obtain rfl : j = ls.length := by omega
          clear HFR
          cases hf : freeTo down n1 ls ls.length
          · have HE : Hid (fltTo down ls n1 = zs) := by unfold Hid; rw [HN1.out, ← HN1.out, HNX.out, hf]; simp
            go_wp2_with fail
            go_roundw
            case rel => exact ⟨n1, _, by omega, by go_num, rfl, by rw [HE.out]; exact HA2⟩
            case measure => simp [intOf]; omega
          · have HE : Hid (fltTo down ls n1 = zs ++ [(n1 : Int)]) := by unfold Hid; rw [HNX.out, hf]; simp
            go_wp2_with (at_builtin; refine wpList_push okInt rfl _ _ rfl HA2.out rfl (n1 : Int) _ rfl _ rfl (by simp) (by omega) ?_; intro u2 w7 HA7 HG7; obtain ⟨A7, c7, hu7, _⟩ := HA7.out.1.rd okInt; rw [List.length_append, List.length_singleton] at hu7; rw [hu7] at HA7; rw [hu7]; clear hu7 HG7)
            go_roundw
            case rel => exact ⟨n1, _, by omega, by go_num, rfl, by rw [HE.out]; exact HA7⟩
            case measure => simp [intOf]; omega
    · have ht : decide (((k + 1 : Nat) : Int) < (m : Int)) = false := by simp only [decide_eq_false_iff_not]; omega
      have HK : Hid (m - 1 = k) := by unfold Hid; omega
      go_wp2_with fail
      go_ret
      refine ⟨.slice A1 zs.length ca, rfl, ?_, HA.out.2.1⟩
      rw [HZK.out _ HK.out]
      exact ownF_int.1 HA.out.1

set_option maxRecDepth 100000 in
set_option maxHeartbeats 1000000 in
theorem faults_any (a b m : Int) (v : Value) (ls : List Lk) (down : Bool) (B : Nat) (w : World) (h : RdF elDomino w B v ls) (hB : B ≤ w.heap.size) (hm : 1 ≤ a ∧ a ≤ 8 → 1 ≤ b ∧ b ≤ 8 → 1 ≤ m ∧ m ≤ 8) :
    Calls Try.prog 84 #[.int .i64 a, .int .i64 b, v, .int .i64 m, .bool down] w fun e w' => ∃ u, e = .returned u ∧ OwnI w' w.heap.size u (fltZ a b m down ls) ∧ Below w.heap.size w w' := by
  cases t1 : inB a 1 8
  · have HF : Hid (fltZ a b m down ls = []) := by unfold Hid fltZ fltB; simp [t1]
    rw [HF.out]
    go_enter Try.func84, Try.ntmps84
    go_wp2_with fail
    refine (within_any _ _ _ _).mono ?_
    rintro e w' ⟨rfl, rfl⟩
    rw [t1]
    go_wp2_with fail
    go_ret
    exact ⟨_, rfl, ownF_int.1 OwnF.nil, Below.refl _ _⟩
  · cases t2 : inB b 1 8
    · have HF : Hid (fltZ a b m down ls = []) := by unfold Hid fltZ fltB; simp [t2]
      rw [HF.out]
      go_enter Try.func84, Try.ntmps84
      go_wp2_with fail
      refine (within_any _ _ _ _).mono ?_
      rintro e w' ⟨rfl, rfl⟩
      rw [t1]
      go_wp2_with fail
      refine (within_any _ _ _ _).mono ?_
      rintro e w' ⟨rfl, rfl⟩
      rw [t2]
      go_wp2_with fail
      go_ret
      exact ⟨_, rfl, ownF_int.1 OwnF.nil, Below.refl _ _⟩
    · have ha := (inB_iff _ _ _).1 t1
      have hb := (inB_iff _ _ _).1 t2
      have hm' := hm ha hb
      obtain ⟨a, rfl⟩ := Int.eq_ofNat_of_zero_le (show 0 ≤ a by omega)
      obtain ⟨b, rfl⟩ := Int.eq_ofNat_of_zero_le (show 0 ≤ b by omega)
      obtain ⟨m, rfl⟩ := Int.eq_ofNat_of_zero_le (show 0 ≤ m by omega)
      cases ht : sTileB (setZ (rectZ a b)) ls
      · have HF : Hid (fltZ a b m down ls = []) := by unfold Hid fltZ fltB; simp [ht]
        rw [HF.out]
        have hok := rectZ_ok a b (by omega) (by omega)
        have HT : Hid (tileB (setZ (rectZ a b)) ls = false) := by unfold Hid; rw [tile_eq (setZ_lt hok)]; exact ht
        have HOK := Lib.hid hok
        have HV := Lib.hid h
        clear hok ht h hm
        go_enter Try.func84, Try.ntmps84
        go_wp2_with fail
        refine (within_any _ _ _ _).mono ?_
        rintro e w' ⟨rfl, rfl⟩
        rw [t1]
        go_wp2_with fail
        refine (within_any _ _ _ _).mono ?_
        rintro e w' ⟨rfl, rfl⟩
        rw [t2]
        go_wp2_with fail
        refine (Rectangle_yes a b (by omega) (by omega) _).mono ?_
        rintro e w1 ⟨u1, rfl, hr1, hb1⟩
        have HR1 := Lib.hid hr1
        have HB1 := Lib.hid hb1
        clear hb1 hr1
        go_wp2_with fail
        refine (IsTiling_yes _ _ _ ls _ _ HR1.out ((HV.out.below (HB1.out.mono hB)).more (Nat.le_trans hB HB1.out.size)) (Nat.le_refl _) HOK.out).mono ?_
        rintro e w2 ⟨rfl, hb2⟩
        rw [HT.out]
        have HB2 := Lib.hid (HB1.out.trans (hb2.mono HB1.out.size))
        clear hb2
        go_wp2_with fail
        go_ret
        exact ⟨_, rfl, ownF_int.1 OwnF.nil, HB2.out⟩
      · have HF : Hid (fltZ a b m down ls = fltTo down ls (m - 1)) := by unfold Hid fltZ fltB; simp [t1, t2, ht]
        rw [HF.out]
        exact faults_yes a b v ls m down B w h hB (by omega) (by omega) (by omega) ht
theorem FaultsDown_any (a b : Int) (v : Value) (ls : List Lk) (B : Nat) (w : World) (h : RdF elDomino w B v ls) (hB : B ≤ w.heap.size) :
    Calls Try.prog 21 #[.int .i64 a, .int .i64 b, v] w fun e w' => ∃ u, e = .returned u ∧ OwnI w' w.heap.size u (fltZ a b a true ls) ∧ Below w.heap.size w w' := by
  have H := Lib.hid (faults_any a b a v ls true B w h hB (fun h _ => h))
  clear h
  go_enter Try.func21, Try.ntmps21
  go_wp2_with fail
  refine H.out.mono ?_
  rintro e w1 ⟨u, rfl, ho, hb⟩
  go_wp2_with fail
  go_ret
  exact ⟨_, rfl, ho, hb⟩
theorem FaultsAcross_any (a b : Int) (v : Value) (ls : List Lk) (B : Nat) (w : World) (h : RdF elDomino w B v ls) (hB : B ≤ w.heap.size) :
    Calls Try.prog 22 #[.int .i64 a, .int .i64 b, v] w fun e w' => ∃ u, e = .returned u ∧ OwnI w' w.heap.size u (fltZ a b b false ls) ∧ Below w.heap.size w w' := by
  have H := Lib.hid (faults_any a b b v ls false B w h hB (fun _ h => h))
  clear h
  go_enter Try.func22, Try.ntmps22
  go_wp2_with fail
  refine H.out.mono ?_
  rintro e w1 ⟨u, rfl, ho, hb⟩
  go_wp2_with fail
  go_ret
  exact ⟨_, rfl, ho, hb⟩
end Go.Proofs.Ytiecphhenpapoaa
