/- moves, hasDomino and GrowDiamond of the program. -/
import Derived.Test.YtiecphhenpapoaaDiam
import Derived.Test.YtiecphhenpapoaaSortI
import Derived.Test.YtiecphhenpapoaaLkIx
import Derived.Test.YtiecphhenpapoaaFaults
import Derived.Test.YtiecphhenpapoaaSortS
namespace Go.Proofs.Ytiecphhenpapoaa
open Go.RowKit
set_option linter.unusedVariables false

/-- Where a domino of the diamond of order n moves to. -/
def stepB (n x y : Int) : Bool := (x + y + n) % 2 == 1
def grL (n : Int) (l : Lk) : Lk := if l.2.2 then (l.1 + (if stepB n l.1 l.2.1 then -1 else 1), l.2.1, true) else (l.1, l.2.1 + (if stepB n l.1 l.2.1 then -1 else 1), false)
def hasL (ls : List Lk) (l : Lk) : Bool := decide (0 ≤ fstZ (lkEq ls l.1 l.2.1 l.2.2) ls.length 0)
def growTo (n : Int) (ls : List Lk) : Nat → List Lk
  | 0 => []
  | k + 1 => if hasL ls (grL n (dAt ls k)) then growTo n ls k else growTo n ls k ++ [((grL n (dAt ls k)).1 + 1, (grL n (dAt ls k)).2.1 + 1, (dAt ls k).2.2)]
theorem growTo_len (n : Int) (ls : List Lk) : ∀ k, (growTo n ls k).length ≤ k
  | 0 => by simp [growTo]
  | k + 1 => by have := growTo_len n ls k; rw [growTo]; split <;> simp <;> omega
def growB (n : Int) (ls : List Lk) : Bool := inB n 1 3 && sTileB (setZ (diamZ n.toNat)) ls
def growZ (n : Int) (ls : List Lk) : List Lk := if growB n ls then sortI (growTo n ls ls.length) (growTo n ls ls.length).length else []
theorem diam_ok_tab : ((List.range 5).all fun n => regOkB (diamZ n)) = true := by decide +kernel
theorem diam_ok (n : Nat) (h : n ≤ 4) : regOkB (diamZ n) = true := by
  have h9 := diam_ok_tab
  rw [List.all_eq_true] at h9
  exact h9 n (by simp; omega)
theorem tile_dom {R : Nat} {ls : List Lk} (h : sTileB R ls = true) {k : Nat} (hk : k < ls.length) : domB (lx ls k) (ly ls k) (ld ls k) = true := by
  unfold sTileB sPartB at h
  rw [Bool.and_eq_true, upFrom_iff] at h
  have hq := h.1 k (Nat.zero_le _) hk
  unfold qAt at hq
  simp only [Bool.and_eq_true] at hq
  exact hq.1.1
theorem tile_few {R : Nat} {ls : List Lk} (h : sTileB R ls = true) : ls.length ≤ 32 := by
  unfold sTileB at h
  rw [Bool.and_eq_true, decide_eq_true_eq] at h
  have key : ∀ R n, cntB R n ≤ n := by
    intro R n
    induction n with
    | zero => simp [cntB]
    | succ n ih => rw [cntB]; split <;> omega
  have := key R 64
  omega
/-- What moves returns. -/
def mvX (n x y : Int) (d : Bool) : Int := if d then (if stepB n x y then -1 else 1) else 0
def mvY (n x y : Int) (d : Bool) : Int := if d then 0 else (if stepB n x y then -1 else 1)

set_option maxRecDepth 100000 in
set_option maxHeartbeats 2000000 in
theorem moves_any (n x y : Int) (d : Bool) (hn : 1 ≤ n ∧ n ≤ 3) (hx : -1 ≤ x ∧ x ≤ 9) (hy : -1 ≤ y ∧ y ≤ 9) (hs : 0 ≤ x + y + n) (w : World) :
    Calls Try.prog 102 #[.int .i64 n, triV x y d] w fun e w' => e = .returned (.tuple #[.int .i64 (mvX n x y d), .int .i64 (mvY n x y d)]) ∧ Below w.heap.size w w' := by
  obtain ⟨W, hW, k0, hb⟩ := one_alloc w (triO x y d 58)
  obtain ⟨c0, c1, c2⟩ := tri_cells k0
  have HW := Lib.hid hW
  have HB := Lib.hid hb
  clear hW hb k0
  cases hst : stepB n x y
  all_goals
    have hq : ((x + y + n) % 2 == 1) = stepB n x y := rfl
    rw [hst] at hq
    have HMX : Hid (∀ d, mvX n x y d = if d then (if stepB n x y then -1 else 1) else 0) := fun _ => rfl
    have HMY : Hid (∀ d, mvY n x y d = if d then 0 else (if stepB n x y then -1 else 1)) := fun _ => rfl
    rw [hst] at HMX HMY
    cases d
    all_goals
      rw [HMX.out, HMY.out]
      go_enter Try.func102, Try.ntmps102
      go_upto_region 1 with (fail)
      rw [← HW.out]
      go_wp2_with fail
      exact bodyPost_ret (v := .tuple #[_, _]) (by simp [results, Try.results102, go_sem]) rfl ⟨rfl, HB.out⟩

set_option maxRecDepth 100000 in
set_option maxHeartbeats 2000000 in
theorem hasDomino_any (v : Value) (ls : List Lk) (x y : Int) (d : Bool) (B : Nat) (w : World) (h : RdF elDomino w B v ls) (hB : B ≤ w.heap.size) :
    Calls Try.prog 103 #[v, triV x y d] w fun e w' => e = .returned (.bool (hasL ls (x, y, d))) ∧ Below w.heap.size w w' := by
  obtain ⟨A, c, rfl, g1, g2, G3⟩ := RdT.of (E := elDomino) rfl (fun _ => rfl) h
  unfold maxLen at g2
  clear h
  go_enter Try.func103, Try.ntmps103
  go_wp2_with fail
  obtain ⟨W, hW, k0, hb0⟩ := one_alloc w (.cells #[.int .i64 x, .int .i64 y, .bool d] 58)
  rw [← hW]
  have HK := Lib.hid k0
  have HB0 := Lib.hid hb0
  have hs0 : w.heap.size < W.heap.size := lt_of_block k0
  clear hW k0 hb0
  go_loopw [9] (fun s wr => ∃ k : Nat, k ≤ ls.length ∧ s = .int .i64 k ∧ Hid (Below W.heap.size W wr) ∧ Hid (fstZ (lkEq ls x y d) ls.length 0 = fstZ (lkEq ls x y d) (ls.length - k) k)) (fun s _ => ls.length - (intOf s).toNat)
  case atStart => exact ⟨0, Nat.zero_le _, rfl, Below.refl _ _, rfl⟩
  case round =>
    obtain ⟨k, hk, rfl, HB, HF⟩ := hrel
    by_cases hlt : k < ls.length
    · obtain ⟨ad, rfl, had, hx, hy, hz⟩ := G3.out k hlt
      have hbw := HB0.out.trans (HB.out.mono HB0.out.size)
      have hx' := (hbw.cell (p := ad.add (k * 3)) (by rw [addBlock]; omega)).trans hx
      have hy' := (hbw.cell (p := ⟨(ad.add (k * 3)).block, (ad.add (k * 3)).off + 1, none⟩) (by show (ad.add (k * 3)).block < _; rw [addBlock]; omega)).trans hy
      have hz' := (hbw.cell (p := ⟨(ad.add (k * 3)).block, (ad.add (k * 3)).off + 2, none⟩) (by show (ad.add (k * 3)).block < _; rw [addBlock]; omega)).trans hz
      have hblk := (HB.out.block w.heap.size hs0).trans HK.out
      have ht : decide ((k : Int) < (ls.length : Int)) = true := by simp only [decide_eq_true_eq]; omega
      have hk0 : (0 : Int) ≤ (k : Int) := by omega
      have hk1 : (k : Int) < (ls.length : Int) := by omega
      have hal := (Below.refl wr.heap.size wr).alloc (Nat.le_refl _) (.cells #[.int .i64 (lx ls k), .int .i64 (ly ls k), .bool (ld ls k)] 58)
      have hblk2 := (hal.block w.heap.size (lt_of_block hblk)).trans hblk
      have b0 : (wr.alloc (.cells #[.int .i64 (lx ls k), .int .i64 (ly ls k), .bool (ld ls k)] 58)).cell? ⟨w.heap.size, 0, none⟩ = some (.int .i64 x) := by rw [blk_cell hblk2]; rfl
      have b1 : (wr.alloc (.cells #[.int .i64 (lx ls k), .int .i64 (ly ls k), .bool (ld ls k)] 58)).cell? ⟨w.heap.size, 1, none⟩ = some (.int .i64 y) := by rw [blk_cell hblk2]; rfl
      have b2 : (wr.alloc (.cells #[.int .i64 (lx ls k), .int .i64 (ly ls k), .bool (ld ls k)] 58)).cell? ⟨w.heap.size, 2, none⟩ = some (.bool d) := by rw [blk_cell hblk2]; rfl
      have HBN := Lib.hid (HB.out.trans (hal.mono HB.out.size))
      have HQ := Lib.hid (hbw.trans (hal.mono hbw.size))
      clear hbw hx hy hz hblk hblk2 hal
      have HS : Hid (fstZ (lkEq ls x y d) (ls.length - k) k = if lkEq ls x y d k then (k : Int) else fstZ (lkEq ls x y d) (ls.length - (k + 1)) (k + 1)) := by
        unfold Hid; rw [show ls.length - k = (ls.length - (k + 1)) + 1 by omega, fstZ]
      have HE : Hid (lkEq ls x y d k = (lx ls k == x && (ly ls k == y && ld ls k == d))) := rfl
      generalize lkEq ls x y d k = r at *
      generalize lx ls k = p1 at *
      generalize ly ls k = p2 at *
      generalize ld ls k = p3 at *
      cases r
      · have HS2 : Hid (fstZ (lkEq ls x y d) ls.length 0 = fstZ (lkEq ls x y d) (ls.length - (k + 1)) (k + 1)) := HF.out.trans HS.out
        clear HS HF
        go_wp2_with fail
        all_goals subst_vars
        all_goals first
          | (exfalso; have h9 := HE.out; simp at h9; done)
          | (go_roundw
             case rel => exact ⟨k + 1, by omega, by go_num, HBN, HS2⟩
             case measure => simp [intOf]; omega)
      · have he := HE.out.symm
        simp only [Bool.and_eq_true, beq_iff_eq] at he
        obtain ⟨rfl, rfl, rfl⟩ := he
        have HS2 : Hid (true = hasL ls (p1, p2, p3)) := by
          unfold Hid hasL
          rw [show fstZ (lkEq ls p1 p2 p3) ls.length 0 = (k : Int) from HF.out.trans HS.out]
          simp
        clear HS HF
        go_wp2_with fail
        go_ret
        exact ⟨ret_bool HS2.out, HQ.out⟩
    · have HF2 : Hid (false = hasL ls (x, y, d)) := by
        unfold Hid hasL
        rw [HF.out, show ls.length - k = 0 by omega]
        rfl
      have ht : decide ((k : Int) < (ls.length : Int)) = false := by simp only [decide_eq_false_iff_not]; omega
      go_wp2_with fail
      go_ret
      exact ⟨ret_bool HF2.out, HB0.out.trans (HB.out.mono HB0.out.size)⟩

theorem grow_step (n x y : Int) (d : Bool) (hn : 1 ≤ n ∧ n ≤ 3) (hx : 0 ≤ x ∧ x ≤ 7) (hy : 0 ≤ y ∧ y ≤ 7) :
    grL n (x, y, d) = (x + mvX n x y d, y + mvY n x y d, d) ∧ mvX n (x + mvX n x y d) (y + mvY n x y d) d = - mvX n x y d ∧ mvY n (x + mvX n x y d) (y + mvY n x y d) d = - mvY n x y d ∧ (-1 ≤ x + mvX n x y d ∧ x + mvX n x y d ≤ 8) ∧ (-1 ≤ y + mvY n x y d ∧ y + mvY n x y d ≤ 8) ∧ 0 ≤ x + mvX n x y d + (y + mvY n x y d) + n ∧ (-1 ≤ mvX n x y d ∧ mvX n x y d ≤ 1) ∧ (-1 ≤ mvY n x y d ∧ mvY n x y d ≤ 1) := by
  have key : ∀ a b : Int, stepB n a b = true ↔ (a + b + n) % 2 = 1 := fun a b => by unfold stepB; simp
  have hf : ∀ a b : Int, stepB n a b = false ↔ ¬ (a + b + n) % 2 = 1 := fun a b => by unfold stepB; simp
  cases d
  · cases hs : stepB n x y
    · have h1 := (hf x y).1 hs
      have h2 : stepB n x (y + 1) = true := (key _ _).2 (by omega)
      simp [grL, mvX, mvY, hs, h2]
      omega
    · have h1 := (key x y).1 hs
      have h2 : stepB n x (y + -1) = false := (hf _ _).2 (by omega)
      simp [grL, mvX, mvY, hs, h2]
      omega
  · cases hs : stepB n x y
    · have h1 := (hf x y).1 hs
      have h2 : stepB n (x + 1) y = true := (key _ _).2 (by omega)
      simp [grL, mvX, mvY, hs, h2]
      omega
    · have h1 := (key x y).1 hs
      have h2 : stepB n (x + -1) y = false := (hf _ _).2 (by omega)
      simp [grL, mvX, mvY, hs, h2]
      omega
def RetGrow (w : World) (b : Bool) (xs : List Lk) (e : Ending) (w' : World) : Prop := ∃ u, e = .returned (.tuple #[u, .bool b]) ∧ OwnF elDomino w' w.heap.size u xs ∧ Below w.heap.size w w'

set_option maxRecDepth 100000 in
set_option maxHeartbeats 8000000 in
theorem GrowDiamond_yes (n : Nat) (v : Value) (ls : List Lk) (B : Nat) (w : World) (h : RdF elDomino w B v ls) (hB : B ≤ w.heap.size) (hn : 1 ≤ n ∧ n ≤ 3) (ht : sTileB (setZ (diamZ n)) ls = true) :
    Calls Try.prog 36 #[.int .i64 (n : Int), v] w (RetGrow w true (sortI (growTo n ls ls.length) (growTo n ls ls.length).length)) := by
  have hls := tile_few ht
  have HIN := Lib.hid (fun k (hk : k < ls.length) => tile_dom ht hk)
  have HLEN := Lib.hid (growTo_len (n : Int) ls)
  have HMS : Hid (∀ k, growTo (n : Int) ls (k + 1) = if hasL ls (grL n (dAt ls k)) then growTo (n : Int) ls k else growTo (n : Int) ls k ++ [((grL n (dAt ls k)).1 + 1, (grL n (dAt ls k)).2.1 + 1, (dAt ls k).2.2)]) := fun k => rfl
  have HM0 : Hid (growTo (n : Int) ls 0 = []) := rfl
  obtain ⟨mv, HMV0⟩ : ∃ mv, Hid (mv = growTo (n : Int) ls) := ⟨_, rfl⟩
  rw [← HMV0.out] at HMS HM0 HLEN ⊢
  have HV := Lib.hid h
  obtain ⟨A, c, rfl, g1, g2, G3⟩ := RdT.of (E := elDomino) rfl (fun _ => rfl) h
  unfold maxLen at g2
  have t1 : inB (n : Int) 1 3 = true := inB_true (by omega) (by omega)
  have hok := diam_ok n (by omega)
  have HT : Hid (tileB (setZ (diamZ n)) ls = true) := by unfold Hid; rw [tile_eq (setZ_lt hok)]; exact ht
  have HOK := Lib.hid hok
  clear hok ht h HMV0
  go_enter Try.func36, Try.ntmps36
  go_wp2_with fail
  refine (within_any _ _ _ _).mono ?_
  rintro e w' ⟨rfl, rfl⟩
  rw [t1]
  go_wp2_with fail
  refine (Diamond_yes n (by omega) _).mono ?_
  rintro e w1 ⟨u1, rfl, hr1, hb1⟩
  have HR1 := Lib.hid hr1
  have HB1 := Lib.hid hb1
  clear hb1 hr1
  go_wp2_with fail
  refine (IsTiling_yes _ _ _ ls _ _ HR1.out ((HV.out.below (HB1.out.mono hB)).more (Nat.le_trans hB HB1.out.size)) (Nat.le_refl _) HOK.out).mono ?_
  rintro e w2 ⟨rfl, hb2⟩
  rw [HT.out]
  have HB2 := Lib.hid (HB1.out.trans (hb2.mono HB1.out.size))
  clear hb2
  have HA0 : Hid (Acc elDomino w w.heap.size (w2.alloc (.cells #[] 58)) (.slice (some ⟨w2.heap.size, 0, none⟩) 0 0) []) := by
    have := Acc.startAt (E := elDomino) HB2.out (Nat.le_refl _) HB2.out.size
    exact this
  go_wp2_with fail
  go_loopw [6, 27] (fun o i wr => ∃ (k : Nat) (u : Value), k ≤ ls.length ∧ i = .int .i64 (k : Int) ∧ u = o ∧ Hid (Acc elDomino w w.heap.size wr u (mv k))) (fun _ i _ => ls.length - (intOf i).toNat)
  case atStart => exact ⟨0, _, Nat.zero_le _, rfl, rfl, by rw [HM0.out]; exact HA0⟩
  case round =>
    obtain ⟨k, u, hk, rfl, rfl, HA⟩ := hrel
    obtain ⟨A1, ca, hv, q1, q2, _⟩ := HA.out.1.rd okDomino
    subst hv
    unfold maxLen at q2
    have hml := HLEN.out k
    by_cases hlt : k < ls.length
    · have ht : decide ((k : Int) < (ls.length : Int)) = true := by simp only [decide_eq_true_eq]; omega
      obtain ⟨ad, rfl, hbl, hx, hy, hz⟩ := G3.out k hlt
      have hbl2 : (ad.add (k * 3)).block < w.heap.size := by rw [addBlock]; omega
      have hbw := HA.out.2.1
      have hx' := (hbw.cell (p := ad.add (k * 3)) hbl2).trans hx
      have hy' := (hbw.cell (p := ⟨(ad.add (k * 3)).block, (ad.add (k * 3)).off + 1, none⟩) hbl2).trans hy
      have hz' := (hbw.cell (p := ⟨(ad.add (k * 3)).block, (ad.add (k * 3)).off + 2, none⟩) hbl2).trans hz
      have hd := (domB_iff _ _ _).1 (HIN.out k hlt)
      have hbd : (0 ≤ lx ls k ∧ lx ls k ≤ 7) ∧ (0 ≤ ly ls k ∧ ly ls k ≤ 7) := by
        obtain ⟨h1, h2⟩ := hd
        cases hdd : ld ls k <;> rw [hdd] at h2 <;> simp at h2 <;> omega
      obtain ⟨p1, p2, p3, p4, p5, p6, p7, p8⟩ := grow_step (n : Int) (lx ls k) (ly ls k) (ld ls k) (by omega) hbd.1 hbd.2
      have HMK : Hid (mv (k + 1) = if hasL ls (grL n (lx ls k, ly ls k, ld ls k)) then mv k else mv k ++ [((grL n (lx ls k, ly ls k, ld ls k)).1 + 1, (grL n (lx ls k, ly ls k, ld ls k)).2.1 + 1, ld ls k)]) := HMS.out k
      rw [p1] at HMK
      have HM1 := Lib.hid (fun V => moves_any (n : Int) (lx ls k) (ly ls k) (ld ls k) (by omega) (by omega) (by omega) (by omega) V)
      have HM2 := Lib.hid (fun V => moves_any (n : Int) (lx ls k + mvX n (lx ls k) (ly ls k) (ld ls k)) (ly ls k + mvY n (lx ls k) (ly ls k) (ld ls k)) (ld ls k) (by omega) (by omega) (by omega) (by omega) V)
      rw [p2, p3] at HM2
      have hk0 : (0 : Int) ≤ (k : Int) := by omega
      have hk1 : (k : Int) < (ls.length : Int) := by omega
      obtain ⟨hb1, hb2⟩ := hbd
      obtain ⟨hb11, hb12⟩ := hb1
      obtain ⟨hb21, hb22⟩ := hb2
      obtain ⟨p41, p42⟩ := p4
      obtain ⟨p51, p52⟩ := p5
      obtain ⟨p71, p72⟩ := p7
      obtain ⟨p81, p82⟩ := p8
      obtain ⟨ox, HOX⟩ : ∃ ox, Hid (lx ls k + mvX n (lx ls k) (ly ls k) (ld ls k) = ox) := ⟨_, rfl⟩
      obtain ⟨oy, HOY⟩ : ∃ oy, Hid (ly ls k + mvY n (lx ls k) (ly ls k) (ld ls k) = oy) := ⟨_, rfl⟩
      rw [HOX.out, HOY.out] at HM2 HMK
      rw [HOX.out] at p41 p42
      rw [HOY.out] at p51 p52
      have hex := HOX.out
      have hey := HOY.out
      generalize mvX n (lx ls k) (ly ls k) (ld ls k) = dx at *
      generalize mvY n (lx ls k) (ly ls k) (ld ls k) = dy at *
      generalize lx ls k = x at *
      generalize ly ls k = y at *
      generalize ld ls k = d at *
      have hm32 : (mv k).length ≤ 32 := by omega
      have hdx : (-dx == -dx) = true := by simp
      have hdy : (-dy == -dy) = true := by simp
      obtain ⟨hs, HHS⟩ : ∃ b, Hid (hasL ls (ox, oy, d) = b) := ⟨_, rfl⟩
      rw [HHS.out] at HMK
      generalize mv k = ys at *
      clear hx hy hz hbw p1 p2 p3 p6 hd hml HOX HOY
      go_wp2_with fail
      obtain ⟨V0, hV0, k9, hbV0⟩ := one_alloc wr (triO x y d 58)
      rw [← hV0]
      obtain ⟨f0, f1, f2⟩ := tri_cells k9
      have HK0 := Lib.hid k9
      have HAV0 := Lib.hid (HA.out.below hbV0)
      clear hV0 k9 hbV0 hx' hy' hz'
      go_wp2_with fail
      refine (HM1.out _).mono ?_
      rintro e w3 ⟨rfl, hb3⟩
      have HA3 := Lib.hid (HAV0.out.below hb3)
      have HK3 := Lib.hid (blk_below HK0.out hb3)
      clear f0 f1 f2 hb3
      obtain ⟨f0, f1, f2⟩ := tri_cells HK3.out
      go_upto_region 9 with (fail)
      obtain ⟨V, hV, k1, hbV⟩ := one_alloc w3 (triO ox oy d 58)
      rw [← hV]
      have HAV := Lib.hid (HA3.out.below hbV)
      have HKD := Lib.hid (blk_below HK3.out hbV)
      have HKO := Lib.hid k1
      clear f0 f1 f2
      obtain ⟨f0, f1, f2⟩ := tri_cells k1
      clear hV k1 hbV
      go_wp2_with fail
      refine (HM2.out _).mono ?_
      rintro e w5 ⟨rfl, hb5⟩
      have HA5 := Lib.hid (HAV.out.below hb5)
      have HKD5 := Lib.hid (blk_below HKD.out hb5)
      have HKO5 := Lib.hid (blk_below HKO.out hb5)
      clear f0 f1 f2 hb5
      obtain ⟨f0, f1, f2⟩ := tri_cells HKO5.out
      go_wp2_with fail
      refine (hasDomino_any _ ls ox oy d w.heap.size _ ((HV.out.more hB).below HA5.out.2.1) HA5.out.2.1.size).mono ?_
      rintro e w6 ⟨rfl, hb6⟩
      rw [HHS.out]
      have HA6 := Lib.hid (HA5.out.below hb6)
      have HKD6 := Lib.hid (blk_below HKD5.out hb6)
      have HKO6 := Lib.hid (blk_below HKO5.out hb6)
      clear f0 f1 f2 hb6
      obtain ⟨f0, f1, f2⟩ := tri_cells HKO6.out
      obtain ⟨e0, e1, e2⟩ := tri_cells HKD6.out
      cases hs
      · have HMV : Hid (mv (k + 1) = ys ++ [(ox + 1, oy + 1, d)]) := by unfold Hid; rw [HMK.out]; rfl
        go_wp2_with (at_builtin; refine wpList_push okDomino rfl _ _ rfl HA6.out rfl (ox + 1, oy + 1, d) _ rfl _ rfl rfl (by omega) ?_; intro v10 w10 HA10 HG10)
        go_roundw
        case rel => exact ⟨k + 1, _, by omega, by go_num, rfl, by rw [HMV.out]; exact HA10⟩
        case measure => simp [intOf]; omega
      · have HMV : Hid (mv (k + 1) = ys) := by unfold Hid; rw [HMK.out]; rfl
        go_wp2_with fail
        go_roundw
        case rel => exact ⟨k + 1, _, by omega, by go_num, rfl, by rw [HMV.out]; exact HA6⟩
        case measure => simp [intOf]; omega
    · obtain rfl : k = ls.length := by omega
      have ht : decide ((ls.length : Int) < (ls.length : Int)) = false := by simp
      have HRD := Lib.hid (HA.out.1.rd okDomino)
      have HBA := Lib.hid HA.out.2.1
      go_wp2_with fail
      refine (SortDominoes_any _ (mv ls.length) _ _ HRD.out (Nat.le_refl _)).mono ?_
      rintro e w9 ⟨u9, rfl, ho9, hb9⟩
      have HO9 := Lib.hid (ho9.mono HBA.out.size)
      have HB9 := Lib.hid (HBA.out.trans (hb9.mono HBA.out.size))
      clear ho9 hb9
      go_wp2_with fail
      exact bodyPost_ret (v := .tuple #[u9, .bool true]) (by simp [results, Try.results36, go_sem]) rfl ⟨_, rfl, HO9.out, HB9.out⟩
end Go.Proofs.Ytiecphhenpapoaa

namespace Go.Proofs.Ytiecphhenpapoaa
open Go.RowKit
set_option linter.unusedVariables false

set_option maxRecDepth 100000 in
set_option maxHeartbeats 4000000 in
theorem GrowDiamond_any (n : Int) (v : Value) (ls : List Lk) (B : Nat) (w : World) (h : RdF elDomino w B v ls) (hB : B ≤ w.heap.size) :
    Calls Try.prog 36 #[.int .i64 n, v] w (RetGrow w (growB n ls) (growZ n ls)) := by
  cases hf : growB n ls
  · have HZ : Hid (growZ n ls = []) := by unfold Hid growZ; rw [hf]; rfl
    rw [HZ.out]
    cases t1 : inB n 1 3
    · clear hf
      go_enter Try.func36, Try.ntmps36
      go_wp2_with fail
      refine (within_any _ _ _ _).mono ?_
      rintro e w' ⟨rfl, rfl⟩
      rw [t1]
      go_wp2_with fail
      exact bodyPost_ret (v := .tuple #[.slice none 0 0, .bool false]) (by simp [results, Try.results36, go_sem]) rfl ⟨_, rfl, OwnF.nil, Below.refl _ _⟩
    · have ha := (inB_iff _ _ _).1 t1
      obtain ⟨n, rfl⟩ := Int.eq_ofNat_of_zero_le (show 0 ≤ n by omega)
      have ht : sTileB (setZ (diamZ n)) ls = false := by unfold growB at hf; rw [t1] at hf; simpa using hf
      have hok := diam_ok n (by omega)
      have HT : Hid (tileB (setZ (diamZ n)) ls = false) := by unfold Hid; rw [tile_eq (setZ_lt hok)]; exact ht
      have HOK := Lib.hid hok
      have HV := Lib.hid h
      clear hok ht h hf
      go_enter Try.func36, Try.ntmps36
      go_wp2_with fail
      refine (within_any _ _ _ _).mono ?_
      rintro e w' ⟨rfl, rfl⟩
      rw [t1]
      go_wp2_with fail
      refine (Diamond_yes n (by omega) _).mono ?_
      rintro e w1 ⟨u1, rfl, hr1, hb1⟩
      have HR1 := Lib.hid hr1
      have HB1 := Lib.hid hb1
      clear hb1 hr1
      go_wp2_with fail
      refine (IsTiling_yes _ _ _ ls _ _ HR1.out ((HV.out.below (HB1.out.mono hB)).more (Nat.le_trans hB HB1.out.size)) (Nat.le_refl _) HOK.out).mono ?_
      rintro e w2 ⟨rfl, hb2⟩
      rw [HT.out]
      have HB2 := Lib.hid (HB1.out.trans (hb2.mono HB1.out.size))
      clear hb2
      go_wp2_with fail
      exact bodyPost_ret (v := .tuple #[.slice none 0 0, .bool false]) (by simp [results, Try.results36, go_sem]) rfl ⟨_, rfl, OwnF.nil, HB2.out⟩
  · have h9 := hf
    unfold growB at h9
    simp only [Bool.and_eq_true, inB_iff] at h9
    obtain ⟨n, rfl⟩ := Int.eq_ofNat_of_zero_le (show 0 ≤ n by omega)
    have HZ : growZ n ls = sortI (growTo n ls ls.length) (growTo n ls ls.length).length := by unfold growZ; rw [hf]; rfl
    rw [HZ]
    exact GrowDiamond_yes n v ls B w h hB (by omega) h9.2

set_option maxRecDepth 100000 in
set_option maxHeartbeats 2000000 in
theorem l17Back_any (n x y : Int) (d : Bool) (hn : 1 ≤ n ∧ n ≤ 3) (hx : 0 ≤ x ∧ x ≤ 7) (hy : 0 ≤ y ∧ y ≤ 7) (w : World) :
    Calls Try.prog 170 #[.int .i64 n, triV x y d] w fun e w' => e = .returned (.bool (stepB n x y)) ∧ Below w.heap.size w w' := by
  obtain ⟨W, hW, k0, hb⟩ := one_alloc w (triO x y d 58)
  obtain ⟨c0, c1, c2⟩ := tri_cells k0
  have HW := Lib.hid hW
  have HB := Lib.hid hb
  have HQ : Hid (((x + y + n) % 2 == 1) = stepB n x y) := rfl
  have hs : 0 ≤ x + y + n := by omega
  clear hW hb k0
  go_enter Try.func170, Try.ntmps170
  go_upto_region 1 with (fail)
  rw [← HW.out]
  go_wp2_with fail
  go_ret
  exact ⟨ret_bool HQ.out, HB.out⟩

set_option maxRecDepth 100000 in
set_option maxHeartbeats 2000000 in
theorem l11Has_any (v : Value) (ls : List Lk) (x y : Int) (d : Bool) (B : Nat) (w : World) (h : RdF elDomino w B v ls) (hB : B ≤ w.heap.size) :
    Calls Try.prog 187 #[v, triV x y d] w fun e w' => e = .returned (.int .i64 (fstZ (lkEq ls x y d) ls.length 0)) ∧ Below w.heap.size w w' := by
  obtain ⟨A, c, rfl, g1, g2, G3⟩ := RdT.of (E := elDomino) rfl (fun _ => rfl) h
  unfold maxLen at g2
  clear h
  go_enter Try.func187, Try.ntmps187
  go_wp2_with fail
  obtain ⟨W, hW, k0, hb0⟩ := one_alloc w (.cells #[.int .i64 x, .int .i64 y, .bool d] 58)
  rw [← hW]
  have HK := Lib.hid k0
  have HB0 := Lib.hid hb0
  have hs0 : w.heap.size < W.heap.size := lt_of_block k0
  clear hW k0 hb0
  go_loopw [5] (fun s wr => ∃ k : Nat, k ≤ ls.length ∧ s = .int .i64 k ∧ Hid (Below W.heap.size W wr) ∧ Hid (fstZ (lkEq ls x y d) ls.length 0 = fstZ (lkEq ls x y d) (ls.length - k) k)) (fun s _ => ls.length - (intOf s).toNat)
  case atStart => exact ⟨0, Nat.zero_le _, rfl, Below.refl _ _, rfl⟩
  case round =>
    obtain ⟨k, hk, rfl, HB, HF⟩ := hrel
    by_cases hlt : k < ls.length
    · obtain ⟨ad, rfl, had, hx, hy, hz⟩ := G3.out k hlt
      have hbw := HB0.out.trans (HB.out.mono HB0.out.size)
      have hx' := (hbw.cell (p := ad.add (k * 3)) (by rw [addBlock]; omega)).trans hx
      have hy' := (hbw.cell (p := ⟨(ad.add (k * 3)).block, (ad.add (k * 3)).off + 1, none⟩) (by show (ad.add (k * 3)).block < _; rw [addBlock]; omega)).trans hy
      have hz' := (hbw.cell (p := ⟨(ad.add (k * 3)).block, (ad.add (k * 3)).off + 2, none⟩) (by show (ad.add (k * 3)).block < _; rw [addBlock]; omega)).trans hz
      have hblk := (HB.out.block w.heap.size hs0).trans HK.out
      have ht : decide ((k : Int) < (ls.length : Int)) = true := by simp only [decide_eq_true_eq]; omega
      have hk0 : (0 : Int) ≤ (k : Int) := by omega
      have hk1 : (k : Int) < (ls.length : Int) := by omega
      obtain ⟨b0, b1, b2⟩ := tri_cells (t := 58) hblk
      have HQ := Lib.hid hbw
      clear hbw hx hy hz hblk
      have HS : Hid (fstZ (lkEq ls x y d) (ls.length - k) k = if lkEq ls x y d k then (k : Int) else fstZ (lkEq ls x y d) (ls.length - (k + 1)) (k + 1)) := by
        unfold Hid; rw [show ls.length - k = (ls.length - (k + 1)) + 1 by omega, fstZ]
      have HE : Hid (lkEq ls x y d k = (lx ls k == x && (ly ls k == y && ld ls k == d))) := rfl
      generalize lkEq ls x y d k = r at *
      generalize lx ls k = p1 at *
      generalize ly ls k = p2 at *
      generalize ld ls k = p3 at *
      cases r
      · have HS2 : Hid (fstZ (lkEq ls x y d) ls.length 0 = fstZ (lkEq ls x y d) (ls.length - (k + 1)) (k + 1)) := HF.out.trans HS.out
        have hsq : ∀ W : World, Sem.run Try.prog (binOp .eql 58 (.agg #[.int .i64 p1, .int .i64 p2, .bool p3]) (.agg #[.int .i64 x, .int .i64 y, .bool d])) W = .ok (.bool false) W := fun W => by
          have h9 := HE.out
          by_cases h1 : p1 = x
          · by_cases h2 : p2 = y
            · have h3 : ¬ p3 = d := fun h => by rw [h1, h2, h] at h9; simp at h9
              go_simp
            · go_simp
          · go_simp
        clear HS HF HE
        go_wp2_with fail
        go_quiet (fail)
        have HB9 := Lib.hid (HB.out.trans (Drawn.below ⟨nq, rfl⟩ _))
        go_wp2_with fail
        go_roundw
        case rel => exact ⟨k + 1, by omega, by go_num, HB9, HS2⟩
        case measure => simp [intOf]; omega
      · have he := HE.out.symm
        simp only [Bool.and_eq_true, beq_iff_eq] at he
        obtain ⟨rfl, rfl, rfl⟩ := he
        have HS2 : Hid (fstZ (lkEq ls p1 p2 p3) ls.length 0 = (k : Int)) := HF.out.trans HS.out
        clear HS HF
        go_wp2_with fail
        go_quiet (fail)
        have HQ9 := Lib.hid (HQ.out.trans (Drawn.below ⟨nq, rfl⟩ _))
        go_wp2_with fail
        go_ret
        exact ⟨ret_int HS2.out.symm, HQ9.out⟩
    · have HF2 : Hid (fstZ (lkEq ls x y d) ls.length 0 = -1) := by unfold Hid; rw [HF.out, show ls.length - k = 0 by omega]; rfl
      have ht : decide ((k : Int) < (ls.length : Int)) = false := by simp only [decide_eq_false_iff_not]; omega
      go_wp2_with fail
      go_ret
      exact ⟨ret_int HF2.out.symm, HB0.out.trans (HB.out.mono HB0.out.size)⟩

set_option maxRecDepth 100000 in
set_option maxHeartbeats 4000000 in
theorem l17Crosses_any (n x y : Int) (d : Bool) (hn : 1 ≤ n ∧ n ≤ 3) (hx : 0 ≤ x ∧ x ≤ 7) (hy : 0 ≤ y ∧ y ≤ 7) (v : Value) (ls : List Lk) (B : Nat) (w : World) (h : RdF elDomino w B v ls) (hB : B ≤ w.heap.size) :
    Calls Try.prog 169 #[.int .i64 n, v, triV x y d] w fun e w' => e = .returned (.bool (hasL ls (grL n (x, y, d)))) ∧ Below w.heap.size w w' := by
  obtain ⟨W, hW, k0, hb⟩ := one_alloc w (triO x y d 58)
  obtain ⟨c0, c1, c2⟩ := tri_cells k0
  have HW := Lib.hid hW
  have HB := Lib.hid hb
  have HK := Lib.hid k0
  have HV := Lib.hid h
  have HQ := Lib.hid (fun V => l17Back_any n x y d hn hx hy V)
  obtain ⟨hx0, hx1⟩ := hx
  obtain ⟨hy0, hy1⟩ := hy
  clear hW hb k0 h
  cases hst : stepB n x y
  · rw [hst] at HQ
    cases d
    · skip
      have HR : Hid (decide (0 ≤ fstZ (lkEq ls (x) (y + 1) false) ls.length 0) = hasL ls (grL n (x, y, false))) := by
        unfold Hid
        rw [show grL n (x, y, false) = (x, y + 1, false) by simp [grL, hst]; try omega]
        rfl
      have HC := Lib.hid (fun (V : World) (hb : Below w.heap.size w V) => l11Has_any v ls (x) (y + 1) false B V (HV.out.below (hb.mono hB)) (Nat.le_trans hB hb.size))
      generalize fstZ (lkEq ls (x) (y + 1) false) ls.length 0 = q at *
      go_enter Try.func169, Try.ntmps169
      go_upto_region 1 with (fail)
      rw [← HW.out]
      go_wp2_with fail
      refine (HQ.out _).mono ?_
      rintro e w1 ⟨rfl, hb1⟩
      have HB1 := Lib.hid (HB.out.trans (hb1.mono HB.out.size))
      have hk1 := blk_below HK.out hb1
      clear c0 c1 c2 hb1
      obtain ⟨c0, c1, c2⟩ := tri_cells hk1
      clear hk1
      go_wp2_with fail
      refine (HC.out _ HB1.out).mono ?_
      rintro e w2 ⟨rfl, hb2⟩
      have HB2 := Lib.hid (HB1.out.trans (hb2.mono HB1.out.size))
      go_wp2_with fail
      go_ret
      exact ⟨ret_bool HR.out, HB2.out⟩
    · skip
      have HR : Hid (decide (0 ≤ fstZ (lkEq ls (x + 1) (y) true) ls.length 0) = hasL ls (grL n (x, y, true))) := by
        unfold Hid
        rw [show grL n (x, y, true) = (x + 1, y, true) by simp [grL, hst]; try omega]
        rfl
      have HC := Lib.hid (fun (V : World) (hb : Below w.heap.size w V) => l11Has_any v ls (x + 1) (y) true B V (HV.out.below (hb.mono hB)) (Nat.le_trans hB hb.size))
      generalize fstZ (lkEq ls (x + 1) (y) true) ls.length 0 = q at *
      go_enter Try.func169, Try.ntmps169
      go_upto_region 1 with (fail)
      rw [← HW.out]
      go_wp2_with fail
      refine (HQ.out _).mono ?_
      rintro e w1 ⟨rfl, hb1⟩
      have HB1 := Lib.hid (HB.out.trans (hb1.mono HB.out.size))
      have hk1 := blk_below HK.out hb1
      clear c0 c1 c2 hb1
      obtain ⟨c0, c1, c2⟩ := tri_cells hk1
      clear hk1
      go_wp2_with fail
      refine (HC.out _ HB1.out).mono ?_
      rintro e w2 ⟨rfl, hb2⟩
      have HB2 := Lib.hid (HB1.out.trans (hb2.mono HB1.out.size))
      go_wp2_with fail
      go_ret
      exact ⟨ret_bool HR.out, HB2.out⟩
  · rw [hst] at HQ
    cases d
    · skip
      have HR : Hid (decide (0 ≤ fstZ (lkEq ls (x) (y - 1) false) ls.length 0) = hasL ls (grL n (x, y, false))) := by
        unfold Hid
        rw [show grL n (x, y, false) = (x, y - 1, false) by simp [grL, hst]; try omega]
        rfl
      have HC := Lib.hid (fun (V : World) (hb : Below w.heap.size w V) => l11Has_any v ls (x) (y - 1) false B V (HV.out.below (hb.mono hB)) (Nat.le_trans hB hb.size))
      generalize fstZ (lkEq ls (x) (y - 1) false) ls.length 0 = q at *
      go_enter Try.func169, Try.ntmps169
      go_upto_region 1 with (fail)
      rw [← HW.out]
      go_wp2_with fail
      refine (HQ.out _).mono ?_
      rintro e w1 ⟨rfl, hb1⟩
      have HB1 := Lib.hid (HB.out.trans (hb1.mono HB.out.size))
      have hk1 := blk_below HK.out hb1
      clear c0 c1 c2 hb1
      obtain ⟨c0, c1, c2⟩ := tri_cells hk1
      clear hk1
      go_wp2_with fail
      refine (HC.out _ HB1.out).mono ?_
      rintro e w2 ⟨rfl, hb2⟩
      have HB2 := Lib.hid (HB1.out.trans (hb2.mono HB1.out.size))
      go_wp2_with fail
      go_ret
      exact ⟨ret_bool HR.out, HB2.out⟩
    · skip
      have HR : Hid (decide (0 ≤ fstZ (lkEq ls (x - 1) (y) true) ls.length 0) = hasL ls (grL n (x, y, true))) := by
        unfold Hid
        rw [show grL n (x, y, true) = (x - 1, y, true) by simp [grL, hst]; try omega]
        rfl
      have HC := Lib.hid (fun (V : World) (hb : Below w.heap.size w V) => l11Has_any v ls (x - 1) (y) true B V (HV.out.below (hb.mono hB)) (Nat.le_trans hB hb.size))
      generalize fstZ (lkEq ls (x - 1) (y) true) ls.length 0 = q at *
      go_enter Try.func169, Try.ntmps169
      go_upto_region 1 with (fail)
      rw [← HW.out]
      go_wp2_with fail
      refine (HQ.out _).mono ?_
      rintro e w1 ⟨rfl, hb1⟩
      have HB1 := Lib.hid (HB.out.trans (hb1.mono HB.out.size))
      have hk1 := blk_below HK.out hb1
      clear c0 c1 c2 hb1
      obtain ⟨c0, c1, c2⟩ := tri_cells hk1
      clear hk1
      go_wp2_with fail
      refine (HC.out _ HB1.out).mono ?_
      rintro e w2 ⟨rfl, hb2⟩
      have HB2 := Lib.hid (HB1.out.trans (hb2.mono HB1.out.size))
      go_wp2_with fail
      go_ret
      exact ⟨ret_bool HR.out, HB2.out⟩
end Go.Proofs.Ytiecphhenpapoaa

namespace Go.Proofs.Ytiecphhenpapoaa
open Go.RowKit
set_option linter.unusedVariables false

theorem grl_eq (n x y : Int) (d : Bool) : grL n (x, y, d) = (if d then x + (if stepB n x y then -1 else 1) else x, if d then y else y + (if stepB n x y then -1 else 1), d) := by cases d <;> simp [grL]

set_option maxRecDepth 100000 in
set_option maxHeartbeats 8000000 in
theorem specGrow_yes (n : Nat) (v : Value) (ls : List Lk) (B : Nat) (w : World) (h : RdF elDomino w B v ls) (hB : B ≤ w.heap.size) (hn : 1 ≤ n ∧ n ≤ 3) (ht : sTileB (setZ (diamZ n)) ls = true) :
    Calls Try.prog 119 #[.int .i64 (n : Int), v] w (RetGrow w true (sortI (growTo n ls ls.length) (growTo n ls ls.length).length)) := by
  have hls := tile_few ht
  have HIN := Lib.hid (fun k (hk : k < ls.length) => tile_dom ht hk)
  have HLEN := Lib.hid (growTo_len (n : Int) ls)
  have HMS : Hid (∀ k, growTo (n : Int) ls (k + 1) = if hasL ls (grL n (dAt ls k)) then growTo (n : Int) ls k else growTo (n : Int) ls k ++ [((grL n (dAt ls k)).1 + 1, (grL n (dAt ls k)).2.1 + 1, (dAt ls k).2.2)]) := fun k => rfl
  have HM0 : Hid (growTo (n : Int) ls 0 = []) := rfl
  obtain ⟨mv, HMV0⟩ : ∃ mv, Hid (mv = growTo (n : Int) ls) := ⟨_, rfl⟩
  rw [← HMV0.out] at HMS HM0 HLEN ⊢
  have HV := Lib.hid h
  obtain ⟨A, c, rfl, g1, g2, G3⟩ := RdT.of (E := elDomino) rfl (fun _ => rfl) h
  unfold maxLen at g2
  have t1 : inB (n : Int) 1 3 = true := inB_true (by omega) (by omega)
  have HOK := Lib.hid (diam_ok n (by omega))
  have HT : Hid (sTileB (setZ (diamZ n)) ls = true) := ht
  have HA0 : Hid (Acc elDomino w w.heap.size (w.alloc (.cells #[] 58)) (.slice (some ⟨w.heap.size, 0, none⟩) 0 0) []) := Acc.start w
  clear ht h HMV0
  go_enter Try.func119, Try.ntmps119
  go_wp2_with fail
  generalize w.alloc (.cells #[] 58) = W0 at *
  refine (l01In_any _ _ _ _).mono ?_
  rintro e w' ⟨rfl, rfl⟩
  rw [t1]
  go_wp2_with fail
  refine (specDiamond_yes n (by omega) _).mono ?_
  rintro e w1 ⟨u1, rfl, hr1, hb1⟩
  have HR1 := Lib.hid hr1
  have HA1 := Lib.hid (HA0.out.below hb1)
  have HB1 := Lib.hid HA1.out.2.1
  clear hb1 hr1
  go_wp2_with fail
  refine (specIsTiling_yes _ _ _ ls _ _ HR1.out ((HV.out.below (HB1.out.mono hB)).more (Nat.le_trans hB HB1.out.size)) (Nat.le_refl _) HOK.out).mono ?_
  rintro e w2 ⟨rfl, hb2⟩
  rw [HT.out]
  have HA2 := Lib.hid (HA1.out.below hb2)
  clear hb2
  go_wp2_with fail
  go_loopw [6, 7] (fun o i wr => ∃ (k : Nat) (u : Value), k ≤ ls.length ∧ i = .int .i64 (k : Int) ∧ u = o ∧ Hid (Acc elDomino w w.heap.size wr u (mv k))) (fun _ i _ => ls.length - (intOf i).toNat)
  case atStart => exact ⟨0, _, Nat.zero_le _, rfl, rfl, by rw [HM0.out]; exact HA2⟩
  case round =>
    obtain ⟨k, u, hk, rfl, rfl, HA⟩ := hrel
    obtain ⟨A1, ca, hv, q1, q2, _⟩ := HA.out.1.rd okDomino
    subst hv
    unfold maxLen at q2
    have hml := HLEN.out k
    by_cases hlt : k < ls.length
    · have ht : decide ((k : Int) < (ls.length : Int)) = true := by simp only [decide_eq_true_eq]; omega
      obtain ⟨ad, rfl, hbl, hx, hy, hz⟩ := G3.out k hlt
      have hbl2 : (ad.add (k * 3)).block < w.heap.size := by rw [addBlock]; omega
      have hbw := HA.out.2.1
      have hx' := (hbw.cell (p := ad.add (k * 3)) hbl2).trans hx
      have hy' := (hbw.cell (p := ⟨(ad.add (k * 3)).block, (ad.add (k * 3)).off + 1, none⟩) hbl2).trans hy
      have hz' := (hbw.cell (p := ⟨(ad.add (k * 3)).block, (ad.add (k * 3)).off + 2, none⟩) hbl2).trans hz
      have hd := (domB_iff _ _ _).1 (HIN.out k hlt)
      have hbd : (0 ≤ lx ls k ∧ lx ls k ≤ 7) ∧ (0 ≤ ly ls k ∧ ly ls k ≤ 7) := by
        obtain ⟨h1, h2⟩ := hd
        cases hdd : ld ls k <;> rw [hdd] at h2 <;> simp at h2 <;> omega
      have HMK : Hid (mv (k + 1) = if hasL ls (grL n (lx ls k, ly ls k, ld ls k)) then mv k else mv k ++ [((grL n (lx ls k, ly ls k, ld ls k)).1 + 1, (grL n (lx ls k, ly ls k, ld ls k)).2.1 + 1, ld ls k)]) := HMS.out k
      have HCR := Lib.hid (fun (V : World) (hb : Below w.heap.size w V) => l17Crosses_any (n : Int) (lx ls k) (ly ls k) (ld ls k) (by omega) hbd.1 hbd.2 _ ls B V (HV.out.below (hb.mono hB)) (Nat.le_trans hB hb.size))
      have HBK := Lib.hid (fun V => l17Back_any (n : Int) (lx ls k) (ly ls k) (ld ls k) (by omega) hbd.1 hbd.2 V)
      have HGL := Lib.hid (grl_eq (n : Int) (lx ls k) (ly ls k) (ld ls k))
      have hk0 : (0 : Int) ≤ (k : Int) := by omega
      have hk1 : (k : Int) < (ls.length : Int) := by omega
      obtain ⟨⟨hb11, hb12⟩, ⟨hb21, hb22⟩⟩ := hbd
      generalize lx ls k = x at *
      generalize ly ls k = y at *
      generalize ld ls k = d at *
      have hm32 : (mv k).length ≤ 32 := by omega
      obtain ⟨gl, HGE⟩ : ∃ gl, Hid (grL (n : Int) (x, y, d) = gl) := ⟨_, rfl⟩
      rw [HGE.out] at HMK HCR HGL
      obtain ⟨hs, HHS⟩ : ∃ b, Hid (hasL ls gl = b) := ⟨_, rfl⟩
      rw [HHS.out] at HMK HCR
      obtain ⟨st, HST⟩ : ∃ b, Hid (stepB (n : Int) x y = b) := ⟨_, rfl⟩
      rw [HST.out] at HBK HGL
      generalize mv k = ys at *
      clear hx hy hz hbw hd hml
      go_wp2_with fail
      obtain ⟨V, hV, k9, hbV⟩ := one_alloc wr (triO x y d 58)
      rw [← hV]
      obtain ⟨vn, hvn⟩ : ∃ vn, wr.heap.size = vn := ⟨_, rfl⟩
      rw [hvn] at k9 ⊢
      have HBV : Hid (Below vn wr V) := by rw [← hvn]; exact hbV
      have HVN := Lib.hid hvn
      obtain ⟨f0, f1, f2⟩ := tri_cells k9
      have HK0 := Lib.hid k9
      clear hV k9 hbV hx' hy' hz' hvn
      go_wp2_with fail
      refine (HCR.out _ (HA.out.2.1.trans (by have h9 := HBV.out; rw [← HVN.out] at h9; exact h9.mono HA.out.2.1.size))).mono ?_
      rintro e w3 ⟨rfl, hb3⟩
      have HK3 := Lib.hid (blk_below HK0.out hb3)
      have HB3 : Hid (Below vn wr w3) := HBV.out.trans (hb3.mono (Nat.le_of_lt (lt_of_block HK0.out)))
      clear f0 f1 f2 hb3
      obtain ⟨f0, f1, f2⟩ := tri_cells HK3.out
      cases hs
      · have HMV : Hid (mv (k + 1) = ys ++ [(gl.1 + 1, gl.2.1 + 1, d)]) := by unfold Hid; rw [HMK.out]; rfl
        go_wp2_with fail
        refine (HBK.out _).mono ?_
        rintro e w5 ⟨rfl, hb5⟩
        have HK5 := Lib.hid (blk_below HK3.out hb5)
        have HB5 : Hid (Below vn wr w5) := HB3.out.trans (hb5.mono (Nat.le_of_lt (lt_of_block HK3.out)))
        clear f0 f1 f2 hb5
        obtain ⟨f0, f1, f2⟩ := tri_cells HK5.out
        have f3 : ∀ o, w5.frozen? ⟨vn, o, none⟩ = false := fun o => blk_free HK5.out
        cases st
        · cases d
          · skip
            go_upto_region 17 with (fail)
            generalize hX : World.setCell _ _ _ = X
            obtain ⟨gx1, gy1, HKX, hg1, hg2⟩ : ∃ gx1 gy1, Hid (X.heap[vn]? = some (triO gx1 gy1 false 58)) ∧ gx1 = gl.1 + 1 ∧ gy1 = gl.2.1 + 1 :=
              ⟨_, _, (by rw [← hX]; exact blk_setCell (k := 1) (blk_setCell (k := 0) (blk_setCell (k := 1) HK5.out _) _) _), (by rw [HGL.out]; simp; try omega), (by rw [HGL.out]; simp; try omega)⟩
            have HBX : Hid (Below vn wr X) := by unfold Hid; rw [← hX]; exact ((HB5.out.setCell (p := ⟨vn, 1, none⟩) (Nat.le_refl _) _).setCell (p := ⟨vn, 0, none⟩) (Nat.le_refl _) _).setCell (p := ⟨vn, 1, none⟩) (Nat.le_refl _) _
            have HAX := Lib.hid (HA.out.below (by rw [HVN.out]; exact HBX.out))
            have HMV2 : Hid (mv (k + 1) = ys ++ [(gx1, gy1, false)]) := by unfold Hid; rw [HMV.out, hg1, hg2]
            clear hX f0 f1 f2 f3 hg1 hg2
            obtain ⟨f0, f1, f2⟩ := tri_cells HKX.out
            go_wp2_with (at_builtin; refine wpList_push okDomino rfl _ _ rfl HAX.out rfl (gx1, gy1, false) _ rfl _ rfl rfl (by omega) ?_; intro v10 w10 HA10 HG10)
            go_roundw
            case rel => exact ⟨k + 1, _, by omega, by go_num, rfl, by rw [HMV2.out]; exact HA10⟩
            case measure => simp [intOf]; omega
          · skip
            go_upto_region 17 with (fail)
            generalize hX : World.setCell _ _ _ = X
            obtain ⟨gx1, gy1, HKX, hg1, hg2⟩ : ∃ gx1 gy1, Hid (X.heap[vn]? = some (triO gx1 gy1 true 58)) ∧ gx1 = gl.1 + 1 ∧ gy1 = gl.2.1 + 1 :=
              ⟨_, _, (by rw [← hX]; exact blk_setCell (k := 1) (blk_setCell (k := 0) (blk_setCell (k := 0) HK5.out _) _) _), (by rw [HGL.out]; simp; try omega), (by rw [HGL.out]; simp; try omega)⟩
            have HBX : Hid (Below vn wr X) := by unfold Hid; rw [← hX]; exact ((HB5.out.setCell (p := ⟨vn, 0, none⟩) (Nat.le_refl _) _).setCell (p := ⟨vn, 0, none⟩) (Nat.le_refl _) _).setCell (p := ⟨vn, 1, none⟩) (Nat.le_refl _) _
            have HAX := Lib.hid (HA.out.below (by rw [HVN.out]; exact HBX.out))
            have HMV2 : Hid (mv (k + 1) = ys ++ [(gx1, gy1, true)]) := by unfold Hid; rw [HMV.out, hg1, hg2]
            clear hX f0 f1 f2 f3 hg1 hg2
            obtain ⟨f0, f1, f2⟩ := tri_cells HKX.out
            go_wp2_with (at_builtin; refine wpList_push okDomino rfl _ _ rfl HAX.out rfl (gx1, gy1, true) _ rfl _ rfl rfl (by omega) ?_; intro v10 w10 HA10 HG10)
            go_roundw
            case rel => exact ⟨k + 1, _, by omega, by go_num, rfl, by rw [HMV2.out]; exact HA10⟩
            case measure => simp [intOf]; omega
        · cases d
          · skip
            go_upto_region 17 with (fail)
            generalize hX : World.setCell _ _ _ = X
            obtain ⟨gx1, gy1, HKX, hg1, hg2⟩ : ∃ gx1 gy1, Hid (X.heap[vn]? = some (triO gx1 gy1 false 58)) ∧ gx1 = gl.1 + 1 ∧ gy1 = gl.2.1 + 1 :=
              ⟨_, _, (by rw [← hX]; exact blk_setCell (k := 1) (blk_setCell (k := 0) (blk_setCell (k := 1) HK5.out _) _) _), (by rw [HGL.out]; simp; try omega), (by rw [HGL.out]; simp; try omega)⟩
            have HBX : Hid (Below vn wr X) := by unfold Hid; rw [← hX]; exact ((HB5.out.setCell (p := ⟨vn, 1, none⟩) (Nat.le_refl _) _).setCell (p := ⟨vn, 0, none⟩) (Nat.le_refl _) _).setCell (p := ⟨vn, 1, none⟩) (Nat.le_refl _) _
            have HAX := Lib.hid (HA.out.below (by rw [HVN.out]; exact HBX.out))
            have HMV2 : Hid (mv (k + 1) = ys ++ [(gx1, gy1, false)]) := by unfold Hid; rw [HMV.out, hg1, hg2]
            clear hX f0 f1 f2 f3 hg1 hg2
            obtain ⟨f0, f1, f2⟩ := tri_cells HKX.out
            go_wp2_with (at_builtin; refine wpList_push okDomino rfl _ _ rfl HAX.out rfl (gx1, gy1, false) _ rfl _ rfl rfl (by omega) ?_; intro v10 w10 HA10 HG10)
            go_roundw
            case rel => exact ⟨k + 1, _, by omega, by go_num, rfl, by rw [HMV2.out]; exact HA10⟩
            case measure => simp [intOf]; omega
          · skip
            go_upto_region 17 with (fail)
            generalize hX : World.setCell _ _ _ = X
            obtain ⟨gx1, gy1, HKX, hg1, hg2⟩ : ∃ gx1 gy1, Hid (X.heap[vn]? = some (triO gx1 gy1 true 58)) ∧ gx1 = gl.1 + 1 ∧ gy1 = gl.2.1 + 1 :=
              ⟨_, _, (by rw [← hX]; exact blk_setCell (k := 1) (blk_setCell (k := 0) (blk_setCell (k := 0) HK5.out _) _) _), (by rw [HGL.out]; simp; try omega), (by rw [HGL.out]; simp; try omega)⟩
            have HBX : Hid (Below vn wr X) := by unfold Hid; rw [← hX]; exact ((HB5.out.setCell (p := ⟨vn, 0, none⟩) (Nat.le_refl _) _).setCell (p := ⟨vn, 0, none⟩) (Nat.le_refl _) _).setCell (p := ⟨vn, 1, none⟩) (Nat.le_refl _) _
            have HAX := Lib.hid (HA.out.below (by rw [HVN.out]; exact HBX.out))
            have HMV2 : Hid (mv (k + 1) = ys ++ [(gx1, gy1, true)]) := by unfold Hid; rw [HMV.out, hg1, hg2]
            clear hX f0 f1 f2 f3 hg1 hg2
            obtain ⟨f0, f1, f2⟩ := tri_cells HKX.out
            go_wp2_with (at_builtin; refine wpList_push okDomino rfl _ _ rfl HAX.out rfl (gx1, gy1, true) _ rfl _ rfl rfl (by omega) ?_; intro v10 w10 HA10 HG10)
            go_roundw
            case rel => exact ⟨k + 1, _, by omega, by go_num, rfl, by rw [HMV2.out]; exact HA10⟩
            case measure => simp [intOf]; omega
      · have HMV : Hid (mv (k + 1) = ys) := by unfold Hid; rw [HMK.out]; rfl
        have HA9 := Lib.hid (HA.out.below (by rw [HVN.out]; exact HB3.out))
        go_wp2_with fail
        go_roundw
        case rel => exact ⟨k + 1, _, by omega, by go_num, rfl, by rw [HMV.out]; exact HA9⟩
        case measure => simp [intOf]; omega
    · obtain rfl : k = ls.length := by omega
      have ht : decide ((ls.length : Int) < (ls.length : Int)) = false := by simp
      have HRD := Lib.hid (HA.out.1.rd okDomino)
      have HBA := Lib.hid HA.out.2.1
      go_wp2_with fail
      refine (specSortDominoes_any _ (mv ls.length) _ _ HRD.out (Nat.le_refl _)).mono ?_
      rintro e w9 ⟨u9, rfl, ho9, hb9⟩
      have HO9 := Lib.hid (ho9.mono HBA.out.size)
      have HB9 := Lib.hid (HBA.out.trans (hb9.mono HBA.out.size))
      clear ho9 hb9
      go_wp2_with fail
      exact bodyPost_ret (v := .tuple #[u9, .bool true]) (by simp [results, Try.results119, go_sem]) rfl ⟨_, rfl, HO9.out, HB9.out⟩
end Go.Proofs.Ytiecphhenpapoaa
