/- What the claim's walk rests on: parts Flip3, CurOwn, Cur, Over, MovL, TilM, SqDraw. -/
import Derived.Test.YtehnbalbpfmijaaKFlt13
import Derived.Test.YtehnbalbpfmijaaKFlt1
import Derived.Test.YtehnbalbpfmijaaKFlt4
import Derived.Test.YtehnbalbpfmijaaKFlt5
import Derived.Test.YtehnbalbpfmijaaKFlt10
import Derived.Test.YtehnbalbpfmijaaKFlt6
import Derived.OneCell
import Derived.Laws.Bits128
import Derived.Deep.RegionHeld3
namespace Go.Proofs.Ytehnbalbpfmijaa
open Go.RowKit
set_option linter.unusedVariables false

theorem neq_dom (a b : Int) (c : Bool) (x y : Int) (z : Bool) (W : World) : Sem.run Try.prog (binOp .neq 46 (.agg #[.int .i64 a, .int .i64 b, .bool c]) (.agg #[.int .i64 x, .int .i64 y, .bool z])) W = .ok (.bool (((a, b, c) : Lk) != (x, y, z))) W := by
  by_cases h1 : a = x
  · by_cases h2 : b = y
    · by_cases h3 : c = z
      · subst h1; subst h2; subst h3
        rw [show (((a, b, c) : Lk) != (a, b, c)) = false by simp]
        go_simp
      · rw [show (((a, b, c) : Lk) != (x, y, z)) = true by simp [h3]]
        go_simp
    · rw [show (((a, b, c) : Lk) != (x, y, z)) = true by simp [h2]]
      go_simp
  · rw [show (((a, b, c) : Lk) != (x, y, z)) = true by simp [h1]]
    go_simp
theorem litD {α : Type} {E : El α} (w : World) (cs : Array Value) (xs : List α) (n : Nat) (hn : n = xs.length) (hl : n ≤ maxLen) (hc : cs.toList = xs.flatMap E.f) (hE : ∀ x, (E.f x).length = E.s) : OwnF E (w.alloc (.cells cs E.e)) w.heap.size (.slice (some ⟨w.heap.size, 0, none⟩) n n) xs := by
  subst hn
  unfold OwnF
  rw [← hc]
  exact World.ownsRow_lit w cs xs.length (Nat.le_refl _) hl (by rw [← Array.length_toList, hc, flat_length hE])
/-- What is kept of the first k, behind the turned pair. -/
def flTo (ls : List Lk) (x y : Int) (d : Bool) (k : Nat) : List Lk := (quadL x y (!d)).1 :: (quadL x y (!d)).2 :: (ls.take k).filter fun l => l != (quadL x y d).1 && l != (quadL x y d).2
theorem flTo_step (ls : List Lk) (x y : Int) (d : Bool) (k : Nat) (h : k < ls.length) : flTo ls x y d (k + 1) = flTo ls x y d k ++ if dAt ls k != (x, y, d) && dAt ls k != (othX x d, othY y d, d) then [dAt ls k] else [] := by
  unfold flTo
  rw [(oth_quad x y d).1, (oth_quad x y d).2, take_get h, List.filter_append, List.cons_append, List.cons_append]
  congr 3
  rw [List.filter_cons, List.filter_nil]
theorem flTo_len (ls : List Lk) (x y : Int) (d : Bool) (k : Nat) : (flTo ls x y d k).length ≤ ls.length + 2 := by
  unfold flTo
  have h1 := List.length_filter_le (fun l => l != (quadL x y d).1 && l != (quadL x y d).2) (ls.take k)
  rw [List.length_take] at h1
  simp only [List.length_cons]
  omega

set_option maxRecDepth 100000 in
set_option maxHeartbeats 4000000 in
theorem FlipAt_yes (v : Value) (ls : List Lk) (x y : Int) (d : Bool) (B : Nat) (w : World) (h : RdF elDomino w B v ls) (hB : B ≤ w.heap.size) (hll : ls.length ≤ 1000) (hxr : 0 ≤ x ∧ x ≤ 6) (hyr : 0 ≤ y ∧ y ≤ 6) (hkd : kindZ ls x y = if d then 2 else 1) :
    Calls Try.prog 49 #[v, spotV x y] w fun e w' => ∃ u, e = .returned (.tuple #[u, .bool true]) ∧ OwnF elDomino w' w.heap.size u (sortI (flipL ls x y d) (flipL ls x y d).length) ∧ Below w.heap.size w w' := by
  have HKI := Lib.hid (fun V (hb : Below w.heap.size w V) => l11Kind_any v ls x y B V (h.below (hb.mono hB)) (Nat.le_trans hB hb.size))
  have HPR := Lib.hid (fun d V => l11Pair_yes x y d hxr hyr V)
  have HP1 := Lib.hid (HPR.out d)
  have HP2 := Lib.hid (HPR.out (!d))
  have HFE : Hid (flTo ls x y d ls.length = flipL ls x y d) := by unfold Hid flTo flipL; rw [List.take_length]
  have HST := Lib.hid (flTo_step ls x y d)
  have HSL := Lib.hid (flTo_len ls x y d)
  have HS0 : Hid (flTo ls x y d 0 = [(x, y, !d), (othX x (!d), othY y (!d), !d)]) := by unfold Hid flTo; rw [(oth_quad x y (!d)).1, (oth_quad x y (!d)).2]; rfl
  rw [← HFE.out]
  obtain ⟨st, HE⟩ : ∃ st, Hid (st = flTo ls x y d) := ⟨_, rfl⟩
  rw [← HE.out] at HST HSL HS0 ⊢
  obtain ⟨A, c, rfl, g1, g2, G3⟩ := RdT.of (E := elDomino) rfl (fun _ => rfl) h
  unfold maxLen at g2
  have hk0 : ((kindZ ls x y) == 0) = false := by rw [hkd]; cases d <;> rfl
  have hk1 : ((kindZ ls x y) == 1) = !d := by rw [hkd]; cases d <;> rfl
  have hk2 : ((kindZ ls x y) == 2) = d := by rw [hkd]; cases d <;> rfl
  clear hkd HFE HE HPR h
  generalize kindZ ls x y = q at *
  generalize othX x d = ex at *
  generalize othY y d = ey at *
  generalize othX x (!d) = vx at *
  generalize othY y (!d) = vy at *
  obtain ⟨nd, HND⟩ : ∃ nd, Hid ((!d) = nd) := ⟨_, rfl⟩
  rw [HND.out] at hk1 HP2 HS0
  obtain ⟨W, hW, kc, hb0⟩ := one_alloc w (.cells #[.int .i64 x, .int .i64 y] 44)
  have c0 : W.cell? ⟨w.heap.size, 0, none⟩ = some (.int .i64 x) := by rw [blk_cell kc]; rfl
  have c1 : W.cell? ⟨w.heap.size, 1, none⟩ = some (.int .i64 y) := by rw [blk_cell kc]; rfl
  have HKC := Lib.hid kc
  have HB0 := Lib.hid hb0
  clear HND
  go_enter Try.func49, Try.ntmps49
  go_upto_region 1 with (fail)
  rw [← hW]
  clear hW kc hb0
  go_wp2_with fail
  refine (HKI.out W HB0.out).mono ?_
  rintro e w1 ⟨rfl, hb1⟩
  have HB1 := Lib.hid (HB0.out.trans (hb1.mono HB0.out.size))
  have HKC1 := Lib.hid (blk_below HKC.out hb1)
  have d0 : w1.cell? ⟨w.heap.size, 0, none⟩ = some (.int .i64 x) := by rw [blk_cell HKC1.out]; rfl
  have d1 : w1.cell? ⟨w.heap.size, 1, none⟩ = some (.int .i64 y) := by rw [blk_cell HKC1.out]; rfl
  clear hb1 c0 c1
  go_wp2_with fail
  refine (HP1.out _).mono ?_
  rintro e w2 ⟨rfl, hb2⟩
  have HB2 := Lib.hid (HB1.out.trans (hb2.mono HB1.out.size))
  have HKC2 := Lib.hid (blk_below HKC1.out hb2)
  obtain ⟨V2, hV2, p1, p2, hbv2⟩ := two_alloc w2 (triO x y d 46) (triO ex ey d 46)
  have HBV2 := Lib.hid (HB2.out.trans (hbv2.mono HB2.out.size))
  have HKCV := Lib.hid (blk_below HKC2.out hbv2)
  have e0 : V2.cell? ⟨w.heap.size, 0, none⟩ = some (.int .i64 x) := by rw [blk_cell HKCV.out]; rfl
  have e1 : V2.cell? ⟨w.heap.size, 1, none⟩ = some (.int .i64 y) := by rw [blk_cell HKCV.out]; rfl
  have HD1 := Lib.hid p1; have HD2 := Lib.hid p2
  have HV2 := Lib.hid hV2
  rw [hV2] at e0 e1
  clear hV2 p1 p2 hbv2 hb2 d0 d1
  go_wp2_with fail
  rw [← HV2.out]
  clear e0 e1 HV2
  refine (HP2.out _).mono ?_
  rintro e w3 ⟨rfl, hb3⟩
  have HB3 := Lib.hid (HBV2.out.trans (hb3.mono HBV2.out.size))
  have HD13 := Lib.hid (blk_below HD1.out hb3); have HD23 := Lib.hid (blk_below HD2.out hb3)
  obtain ⟨V3, hV3, p1, p2, hbv3⟩ := two_alloc w3 (triO x y nd 46) (triO vx vy nd 46)
  have HBV3 := Lib.hid (HB3.out.trans (hbv3.mono HB3.out.size))
  have HD14 := Lib.hid (blk_below HD13.out hbv3); have HD24 := Lib.hid (blk_below HD23.out hbv3)
  obtain ⟨m0, m1, m2⟩ := tri_cells p1
  obtain ⟨n0, n1, n2⟩ := tri_cells p2
  have HV3 := Lib.hid hV3
  rw [hV3] at m0 m1 m2 n0 n1 n2
  obtain ⟨V4, hV4, p4, hbv4⟩ := one_alloc V3 (.cells #[.int .i64 x, .int .i64 y, .bool nd, .int .i64 vx, .int .i64 vy, .bool nd] 46)
  have HLIT : Hid (OwnF elDomino V4 w.heap.size (.slice (some ⟨V3.heap.size, 0, none⟩) 2 2) (st 0)) := by
    unfold Hid
    rw [HS0.out, hV4]
    exact (litD (E := elDomino) V3 #[.int .i64 x, .int .i64 y, .bool nd, .int .i64 vx, .int .i64 vy, .bool nd] [(x, y, nd), (vx, vy, nd)] 2 rfl (by unfold maxLen; omega) rfl (fun _ => rfl)).mono HBV3.out.size
  have HBV4 := Lib.hid (HBV3.out.trans (hbv4.mono HBV3.out.size))
  have HACC : Hid (Acc elDomino w w.heap.size V4 (.slice (some ⟨V3.heap.size, 0, none⟩) 2 2) (st 0)) := ⟨HLIT.out, HBV4.out, Nat.le_refl _, HBV4.out.size⟩
  have HD15 := Lib.hid (blk_below HD14.out hbv4); have HD25 := Lib.hid (blk_below HD24.out hbv4)
  have HV4 := Lib.hid hV4
  have HVS : Hid (V3.heap.size = w3.heap.size + 1 + 1) := by unfold Hid; rw [hV3]; simp
  rw [HVS.out] at HACC
  have HSEP : Hid (V3.heap.size ≠ w2.heap.size ∧ V3.heap.size ≠ w2.heap.size + 1) := by
    have h1 := lt_of_block HD14.out
    have h2 := lt_of_block HD24.out
    exact ⟨by omega, by omega⟩
  have HLT : Hid (w2.heap.size + 1 < V3.heap.size) := lt_of_block HD24.out
  clear hV3 hV4 p1 p2 p4 hbv3 hbv4 hb3
  go_wp2_with fail
  rw [← HV3.out, ← HV4.out]
  clear m0 m1 m2 n0 n1 n2 HV3 HV4
  go_loopw [11, 12] (fun o i wr => ∃ (k : Nat) (u : Value), k ≤ ls.length ∧ i = .int .i64 (k : Int) ∧ u = o ∧ Hid (Acc elDomino w w.heap.size wr u (st k)) ∧ Hid (wr.heap[w2.heap.size]? = some (triO x y d 46)) ∧ Hid (wr.heap[w2.heap.size + 1]? = some (triO ex ey d 46)) ∧ Hid (∀ g, u.ownBlock = some g → w2.heap.size + 1 < g)) (fun _ i _ => ls.length - (intOf i).toNat)
  case atStart => exact ⟨0, _, Nat.zero_le _, rfl, rfl, HACC, HD15, HD25, fun g hg => by simp only [Value.ownBlock, Option.some.injEq] at hg; have := HLT.out; have := HVS.out; omega⟩
  case round =>
    obtain ⟨k, u, hk, rfl, rfl, HA, HE1, HE2, HO⟩ := hrel
    obtain ⟨A1, ca, hv, q1, q2, _⟩ := HA.out.1.rd okDomino
    have hml := HSL.out k
    subst hv
    unfold maxLen at q2
    by_cases hlt : k < ls.length
    · have ht : decide ((k : Int) < (ls.length : Int)) = true := by simp only [decide_eq_true_eq]; omega
      obtain ⟨ad, rfl, had, hx, hy, hz⟩ := G3.out k hlt
      have hbw := HA.out.2.1
      have had2 : (ad.add (k * 3)).block < w.heap.size := by rw [addBlock]; omega
      have hx' := (hbw.cell (p := ad.add (k * 3)) had2).trans hx
      have hy' := (hbw.cell (p := ⟨(ad.add (k * 3)).block, (ad.add (k * 3)).off + 1, none⟩) had2).trans hy
      have hz' := (hbw.cell (p := ⟨(ad.add (k * 3)).block, (ad.add (k * 3)).off + 2, none⟩) had2).trans hz
      obtain ⟨m0, m1, m2⟩ := tri_cells HE1.out
      obtain ⟨n0, n1, n2⟩ := tri_cells HE2.out
      have hk0' : (0 : Int) ≤ (k : Int) := by omega
      have hk1' : (k : Int) < (ls.length : Int) := by omega
      have HSK := Lib.hid (HST.out k hlt)
      have HDD : Hid (dAt ls k = (lx ls k, ly ls k, ld ls k)) := rfl
      rw [HDD.out] at HSK
      clear hx hy hz hbw had2 HDD
      generalize lx ls k = r1 at *
      generalize ly ls k = r2 at *
      generalize ld ls k = r3 at *
      generalize st k = ys at *
      have hn1 := neq_dom r1 r2 r3 x y d
      have hn2 := neq_dom r1 r2 r3 ex ey d
      generalize hb1 : (((r1, r2, r3) : Lk) != (x, y, d)) = b1 at *
      generalize hb2 : (((r1, r2, r3) : Lk) != (ex, ey, d)) = b2 at *
      clear hb1 hb2
      cases b1
      · have HS2 : Hid (st (k + 1) = ys) := by unfold Hid; rw [HSK.out, Bool.false_and]; simp
        clear HSK
        go_wp2_with fail
        go_quiet (fail)
        have hbn : Below wr.heap.size wr (wr.drewN nq) := Drawn.below ⟨nq, rfl⟩ _
        go_wp2_with fail
        go_roundw
        case rel => exact ⟨k + 1, _, by omega, by go_num, rfl, by rw [HS2.out]; exact HA.out.below hbn, blk_below HE1.out hbn, blk_below HE2.out hbn, HO⟩
        case measure => simp [intOf]; omega
      · cases b2
        · have HS2 : Hid (st (k + 1) = ys) := by unfold Hid; rw [HSK.out, Bool.true_and]; simp
          clear HSK
          go_wp2_with fail
          go_quiet (fail)
          have hbn : Below wr.heap.size wr (wr.drewN nq) := Drawn.below ⟨nq, rfl⟩ _
          go_wp2_with fail
          go_roundw
          case rel => exact ⟨k + 1, _, by omega, by go_num, rfl, by rw [HS2.out]; exact HA.out.below hbn, blk_below HE1.out hbn, blk_below HE2.out hbn, HO⟩
          case measure => simp [intOf]; omega
        · have HS2 : Hid (st (k + 1) = ys ++ [(r1, r2, r3)]) := by unfold Hid; rw [HSK.out, Bool.true_and]; simp
          clear HSK
          go_wp2_with fail
          go_quiet (fail)
          have hbn : Below wr.heap.size wr (wr.drewN nq) := Drawn.below ⟨nq, rfl⟩ _
          have HAN := Lib.hid (HA.out.below hbn)
          have HEN1 := Lib.hid (blk_below HE1.out hbn); have HEN2 := Lib.hid (blk_below HE2.out hbn)
          go_wp2_with (at_builtin; refine wpList_push okDomino rfl _ _ rfl HAN.out rfl (r1, r2, r3) _ rfl _ rfl rfl (by omega) ?_; intro v10 w10 HA10 HG10)
          have hs10 := lt_of_block HEN2.out
          have hh1 := HG10.out.1.block w2.heap.size (by omega) (fun e => by have := HO.out _ e.symm; omega)
          have hh2 := HG10.out.1.block (w2.heap.size + 1) (by omega) (fun e => by have := HO.out _ e.symm; omega)
          obtain ⟨g10, hg10, hg11, _⟩ := HG10.out.2
          go_roundw
          case rel =>
            refine ⟨k + 1, _, by omega, by go_num, rfl, by rw [HS2.out]; exact HA10, hh1.trans HEN1.out, hh2.trans HEN2.out, fun g hg => ?_⟩
            rw [hg10] at hg
            obtain rfl := Option.some.inj hg
            rcases hg11 with e | e
            · exact HO.out _ e
            · omega
          case measure => simp [intOf]; omega
    · obtain rfl : k = ls.length := by omega
      have ht : decide ((ls.length : Int) < (ls.length : Int)) = false := by simp
      have HRD := Lib.hid (HA.out.1.rd okDomino)
      have HBA := Lib.hid HA.out.2.1
      go_wp2_with fail
      refine (specSortDominoes_any _ (st ls.length) _ _ HRD.out (Nat.le_refl _)).mono ?_
      rintro e w9 ⟨u9, rfl, ho9, hb9⟩
      have HO9 := Lib.hid (ho9.mono HBA.out.size)
      have HB9 := Lib.hid (HBA.out.trans (hb9.mono HBA.out.size))
      obtain ⟨A9, c9, hv9, _, _, _⟩ := ho9.rd okDomino
      subst hv9
      clear ho9 hb9
      go_wp2_with fail
      refine bodyPost_ret (v := .tuple #[.slice A9 (sortI (st ls.length) (st ls.length).length).length c9, .bool true]) (by simp [results, Try.results49, go_sem]) rfl ⟨_, rfl, HO9.out, HB9.out⟩
end Go.Proofs.Ytehnbalbpfmijaa

namespace Go.Proofs.Ytehnbalbpfmijaa
open Go.RowKit

theorem acc0 {α : Type} {E : El α} {wr : World} {lo : Nat} {v : Value} {xs : List α} (h : OwnF E wr lo v xs) (hl : lo ≤ wr.heap.size) : Acc E { wr with heap := #[] } lo wr v xs :=
  ⟨h, ⟨rfl, rfl, rfl, Nat.zero_le _, fun _ hk => absurd hk (Nat.not_lt_zero _)⟩, Nat.zero_le _, hl⟩
theorem acc0I {wr : World} {lo : Nat} {v : Value} {xs : List Int} (h : OwnI wr lo v xs) (hl : lo ≤ wr.heap.size) : Acc elInt { wr with heap := #[] } lo wr v xs := acc0 (ownF_int.2 h) hl
/-- Only row, of what w had, is written: it stays so where what is younger than w grows. -/
theorem grownBy_more {w wr w' : World} {row row' : Option Nat} (h : w.grownBy wr row) (hg : wr.grownBy w' row') (hr : ∀ k, row' = some k → w.heap.size ≤ k ∨ row = some k) : w.grownBy w' row :=
  ⟨hg.os.trans h.os, hg.tape.trans h.tape, hg.output.trans h.output, Nat.le_trans h.size hg.size, fun k hk hne => (hg.block k (Nat.lt_of_lt_of_le hk h.size) (fun e => by
    rcases hr k e.symm with h1 | h1
    · omega
    · exact hne h1.symm)).trans (h.block k hk hne)⟩
theorem grownBy_below {w wr w' : World} {row : Option Nat} (h : w.grownBy wr row) (hb : Below wr.heap.size wr w') : w.grownBy w' row :=
  grownBy_more h (row' := none) ⟨hb.os, hb.tape, hb.output, hb.size, fun k hk _ => hb.block k hk⟩ (fun k e => by simp at e)
theorem grownBy_alloc (w : World) (o : Obj) (row : Option Nat) : w.grownBy (w.alloc o) row := ⟨rfl, rfl, rfl, by simp, fun _ hk _ => Below.heap_alloc _ _ _ hk⟩
/-- A young row written: below the old heap nothing turns. -/
theorem below_young {w0 w w' : World} {q : Nat} (hb : Below w0.heap.size w0 w) (hg : w.grownBy w' (some q)) (hq : w0.heap.size ≤ q) : Below w0.heap.size w0 w' :=
  hb.grown hg hb.size fun k hk => by simp at hk; omega
end Go.Proofs.Ytehnbalbpfmijaa

namespace Go.Proofs.Ytehnbalbpfmijaa
open Go.RowKit

/-- v is a slice of n bytes. -/
def RdU (w : World) (B : Nat) (v : Value) (n : Nat) : Prop := ∃ A c, v = .slice A n c ∧ n ≤ c ∧ c ≤ maxLen ∧ ∀ j, j < n → ∃ ad z, A = some ad ∧ ad.block < B ∧ 0 ≤ z ∧ z ≤ 255 ∧ w.cell? (ad.add j) = some (.int .u8 z)
theorem RdU.keep {w w' : World} {B : Nat} {v : Value} {n : Nat} (h : RdU w B v n) (hk : ∀ p : Addr, p.block < B → w'.cell? p = w.cell? p) : RdU w' B v n := by
  obtain ⟨A, c, e, h1, h2, h3⟩ := h
  refine ⟨A, c, e, h1, h2, fun j hj => ?_⟩
  obtain ⟨ad, z, e2, hb, z0, z1, hc⟩ := h3 j hj
  exact ⟨ad, z, e2, hb, z0, z1, (hk _ (by rw [addBlock]; exact hb)).trans hc⟩
theorem RdU.below {w w' : World} {B : Nat} {v : Value} {n : Nat} (h : RdU w B v n) (hb : Below B w w') : RdU w' B v n := h.keep fun _ hp => hb.cell hp
theorem RdU.more {w : World} {B B' : Nat} {v : Value} {n : Nat} (h : RdU w B v n) (hB : B ≤ B') : RdU w B' v n := by
  obtain ⟨A, c, e, h1, h2, h3⟩ := h
  refine ⟨A, c, e, h1, h2, fun j hj => ?_⟩
  obtain ⟨ad, z, e2, hb, r⟩ := h3 j hj
  exact ⟨ad, z, e2, by omega, r⟩

/-- Block q is a cursor over the n bytes of v. -/
def Cur (w : World) (q : Nat) (v : Value) (n : Nat) : Prop := ∃ (i : Nat) (h : Int), i ≤ n ∧ w.heap[q]? = some (.cells #[v, .int .i64 i, .int .i64 h] 143 (0, 0)) ∧ RdU w q v n
theorem Cur.lt {w : World} {q : Nat} {v : Value} {n : Nat} (h : Cur w q v n) : q < w.heap.size := by obtain ⟨_, _, _, h, _⟩ := h; exact lt_of_block h
/-- The cursor stays where neither it nor its bytes are written. -/
theorem Cur.grown {w w' : World} {q : Nat} {v : Value} {n : Nat} {row : Option Nat} (h : Cur w q v n) (hg : w.grownBy w' row) (hr : ∀ k, row = some k → q < k) : Cur w' q v n := by
  have hq := h.lt
  obtain ⟨i, x, hi, hb, hr2⟩ := h
  have hk : ∀ k, k ≤ q → w'.heap[k]? = w.heap[k]? := fun k hk => hg.block k (by omega) (fun e => by have := hr k e.symm; omega)
  exact ⟨i, x, hi, by rw [hk q (Nat.le_refl _)]; exact hb, hr2.keep fun p hp => World.cell?_of_block (hk _ (by omega))⟩
theorem Cur.below {w w' : World} {q : Nat} {v : Value} {n : Nat} (h : Cur w q v n) (hb : Below w.heap.size w w') : Cur w' q v n :=
  h.grown (row := none) ⟨hb.os, hb.tape, hb.output, hb.size, fun k hk _ => hb.block k hk⟩ fun k e => by simp at e

/-- A draw: some number r with P r comes back; the cursor's block alone is written. -/
def Draw (P : Int → Prop) (w : World) (q : Nat) (v : Value) (n : Nat) (e : Ending) (w' : World) : Prop := ∃ r, P r ∧ e = .returned (.int .i64 r) ∧ Cur w' q v n ∧ w.grownBy w' (some q)

theorem and255 (n : Int) : bits .and .i64 n 255 = n % 256 := by
  have h127 : (BitVec.ofInt 64 255).toNat = 2 ^ 8 - 1 := by decide
  have key : (BitVec.ofInt 64 n &&& BitVec.ofInt 64 255).toNat = (n % ((2 ^ 64 : Nat) : Int)).toNat % 2 ^ 8 := by
    rw [BitVec.toNat_and, BitVec.toNat_ofInt, h127, Nat.and_two_pow_sub_one_eq_mod]
  show IntKind.i64.wrap ((BitVec.ofInt 64 n &&& BitVec.ofInt 64 255).toNat : Nat) = n % 256
  rw [key, IntKind.wrap_i64]
  omega
def and255Z (n : Int) : Int := bits .and .i64 n 255
theorem and255Z_bd (n : Int) : 0 ≤ and255Z n ∧ and255Z n ≤ 255 := by unfold and255Z; rw [and255]; omega

set_option maxHeartbeats 1000000 in
theorem byte_any (q n : Nat) (v : Value) (w : World) (hc : Cur w q v n) :
    Calls Try.prog 162 #[.pointer (some ⟨q, 0, none⟩)] w (Draw (fun r => 0 ≤ r ∧ r ≤ 255) w q v n) := by
  obtain ⟨i, h, hi, hb, A, c, rfl, h1, h2, h3⟩ := hc
  unfold maxLen at h2
  have hsh1 : ∀ (W : World) (x : Int), Sem.run Try.prog (Op.shift BinOp.shr IntKind.i64 x IntKind.u64 33) W = .ok (.int .i64 (x / 8589934592)) W := fun W x => by rw [shift_shr _ _ _ _ (by omega) (by decide)]; rfl
  have hsh2 : ∀ (W : World) (x : Int), Sem.run Try.prog (Op.shift BinOp.shr IntKind.i64 x IntKind.u64 45) W = .ok (.int .i64 (x / 35184372088832)) W := fun W x => by rw [shift_shr _ _ _ _ (by omega) (by decide)]; rfl
  have c0 : w.cell? ⟨q, 0, none⟩ = some (.slice A n c) := by rw [blk_cell hb]; rfl
  have c1 : w.cell? ⟨q, 1, none⟩ = some (.int .i64 i) := by rw [blk_cell hb]; rfl
  have c2 : w.cell? ⟨q, 2, none⟩ = some (.int .i64 h) := by rw [blk_cell hb]; rfl
  have f1 : w.frozen? ⟨q, 1, none⟩ = false := blk_free hb
  have f2 : w.frozen? ⟨q, 2, none⟩ = false := blk_free hb
  by_cases hlt : i < n
  · obtain ⟨ad, z, rfl, hbl, z0, z1, hz⟩ := h3 i hlt
    have hi0 : (0 : Int) ≤ (i : Int) := by omega
    have hi1 : (i : Int) < (n : Int) := by omega
    go_enter Try.func162, Try.ntmps162
    go_wp2_with fail
    have hb1 := blk_setCell (k := 2) hb (.int .i64 (wrap64 (wrap64 (h * 6364136223846793005) + 1442695040888963407)))
    have hg1 := grownBy_set w q 2 (.int .i64 (wrap64 (wrap64 (h * 6364136223846793005) + 1442695040888963407)))
    have hz1 : (w.setCell ⟨q, 2, none⟩ (.int .i64 (wrap64 (wrap64 (h * 6364136223846793005) + 1442695040888963407)))).cell? (ad.add i) = some (.int .u8 z) :=
      (World.cell?_of_block (Below.heap_setCell _ _ _ _ (by rw [addBlock]; simp; omega))).trans hz
    generalize wrap64 (wrap64 (h * 6364136223846793005) + 1442695040888963407) = h' at *
    generalize w.setCell ⟨q, 2, none⟩ (.int .i64 h') = W at *
    have c0' : W.cell? ⟨q, 0, none⟩ = some (.slice (some ad) n c) := by rw [blk_cell hb1]; rfl
    have c1' : W.cell? ⟨q, 1, none⟩ = some (.int .i64 i) := by rw [blk_cell hb1]; rfl
    have c2' : W.cell? ⟨q, 2, none⟩ = some (.int .i64 h') := by rw [blk_cell hb1]; rfl
    have f1' : W.frozen? ⟨q, 1, none⟩ = false := blk_free hb1
    clear c0 c1 c2 f1 f2
    go_quiet (fail)
    go_wp2_with fail
    go_quiet (fail)
    go_wp2_with fail
    go_quiet (fail)
    go_wp2_with fail
    go_ret
    have hR : RdU w q (.slice (some ad) n c) n := ⟨some ad, c, rfl, h1, by unfold maxLen; omega, h3⟩
    refine ⟨_, and255Z_bd _, rfl, ⟨i + 1, h', by omega, ?_, ?_⟩, ?_⟩
    · exact (blk_setCell (w := W) hb1 (.int .i64 ((i : Int) + 1))).trans (by simp)
    · exact hR.keep fun p hp => (World.cell?_of_block (Below.heap_setCell _ _ _ _ (by simp; omega))).trans (World.cell?_of_block (hg1.block _ (by have := lt_of_block hb; omega) (fun e => by simp at e; omega)))
    · exact hg1.trans ((grownBy_drewN W _ _).trans (grownBy_set _ q 1 (.int .i64 ((i : Int) + 1))))
  · have hi1 : ¬ (i : Int) < (n : Int) := by omega
    go_enter Try.func162, Try.ntmps162
    go_wp2_with fail
    have hb1 := blk_setCell (k := 2) hb (.int .i64 (wrap64 (wrap64 (h * 6364136223846793005) + 1442695040888963407)))
    have hg1 := grownBy_set w q 2 (.int .i64 (wrap64 (wrap64 (h * 6364136223846793005) + 1442695040888963407)))
    generalize wrap64 (wrap64 (h * 6364136223846793005) + 1442695040888963407) = h' at *
    generalize w.setCell ⟨q, 2, none⟩ (.int .i64 h') = W at *
    have c0' : W.cell? ⟨q, 0, none⟩ = some (.slice A n c) := by rw [blk_cell hb1]; rfl
    have c1' : W.cell? ⟨q, 1, none⟩ = some (.int .i64 i) := by rw [blk_cell hb1]; rfl
    have c2' : W.cell? ⟨q, 2, none⟩ = some (.int .i64 h') := by rw [blk_cell hb1]; rfl
    clear c0 c1 c2 f1 f2
    go_quiet (fail)
    go_wp2_with fail
    go_quiet (fail)
    go_wp2_with fail
    go_ret
    have hR : RdU w q (.slice A n c) n := ⟨A, c, rfl, h1, by unfold maxLen; omega, h3⟩
    refine ⟨_, and255Z_bd _, rfl, ⟨i, h', by omega, ?_, ?_⟩, ?_⟩
    · exact hb1
    · exact hR.keep fun p hp => World.cell?_of_block (hg1.block _ (by have := lt_of_block hb; omega) (fun e => by simp at e; omega))
    · exact hg1.trans ((grownBy_drewN W _ _).trans (grownBy_drewN _ _ _))

set_option maxHeartbeats 1000000 in
theorem below_any (q n : Nat) (v : Value) (m : Int) (w : World) (hc : Cur w q v n) (h1 : 1 ≤ m) (h2 : m ≤ 256) :
    Calls Try.prog 131 #[.pointer (some ⟨q, 0, none⟩), .int .i64 m] w (Draw (fun r => 0 ≤ r ∧ r < m) w q v n) := by
  go_enter Try.func131, Try.ntmps131
  go_wp2_with fail
  refine (byte_any q n v w hc).mono ?_
  rintro e w1 ⟨r, ⟨h3, h4⟩, rfl, hc1, hg1⟩
  go_wp2_with fail
  go_ret
  exact ⟨r % m, ⟨Int.emod_nonneg _ (by omega), Int.emod_lt_of_pos _ (by omega)⟩, ret_int (by first | rfl | omega), hc1, hg1⟩

/-- A new cursor. -/
def NewCur (w : World) (v : Value) (n : Nat) (e : Ending) (w' : World) : Prop := e = .returned (.pointer (some ⟨w.heap.size, 0, none⟩)) ∧ Cur w' w.heap.size v n ∧ Below w.heap.size w w'
set_option maxHeartbeats 1000000 in
theorem new_any (v : Value) (n B : Nat) (w : World) (hv : RdU w B v n) (hB : B ≤ w.heap.size) :
    Calls Try.prog 64 #[v] w (NewCur w v n) := by
  have HV := Lib.hid (hv.more hB)
  obtain ⟨A, c, rfl, h1, h2, h3⟩ := hv
  unfold maxLen at h2
  go_enter Try.func64, Try.ntmps64
  go_wp2_with fail
  go_loop [3, 4] (fun h i => ∃ (k : Nat) (x : Int), k ≤ n ∧ k ≤ 4000 ∧ i = .int .i64 k ∧ h = .int .i64 x) (fun _ i => n - (intOf i).toNat)
  case atStart => exact ⟨0, _, by omega, by omega, rfl, rfl⟩
  case round =>
    obtain ⟨k, x, hk, hk2, rfl, rfl⟩ := hrel
    by_cases hlt : k < n
    · by_cases hlt2 : k < 4000
      · obtain ⟨ad, z, rfl, hbl, z0, z1, hz⟩ := h3 k hlt
        have b1 : decide ((k : Int) < (n : Int)) = true := by simp; omega
        have b2 : decide ((k : Int) < 4000) = true := by simp; omega
        go_wp2_with fail
        go_round
        case rel => exact ⟨k + 1, _, by omega, by omega, by go_num, rfl⟩
        case measure => simp [intOf]; omega
      · have b1 : decide ((k : Int) < (n : Int)) = true := by simp; omega
        have b2 : decide ((k : Int) < 4000) = false := by simp; omega
        go_wp2_with fail
        go_ret
        refine ⟨rfl, ⟨0, x, by omega, ?_, (HV.out.below ((Below.refl _ _).alloc (Nat.le_refl _) _))⟩, (Below.refl _ _).alloc (Nat.le_refl _) _⟩
        exact heap_alloc_new w _
    · have b1 : decide ((k : Int) < (n : Int)) = false := by simp; omega
      go_wp2_with fail
      go_ret
      refine ⟨rfl, ⟨0, x, by omega, ?_, (HV.out.below ((Below.refl _ _).alloc (Nat.le_refl _) _))⟩, (Below.refl _ _).alloc (Nat.le_refl _) _⟩
      exact heap_alloc_new w _
end Go.Proofs.Ytehnbalbpfmijaa

namespace Go.Proofs.Ytehnbalbpfmijaa
open Go.RowKit
set_option linter.unusedVariables false

/-- Two cells of the floor, side by side. -/
def nextB (x y x2 y2 : Int) : Prop := (0 ≤ x ∧ x ≤ 7) ∧ (0 ≤ y ∧ y ≤ 7) ∧ (0 ≤ x2 ∧ x2 ≤ 7) ∧ (0 ≤ y2 ∧ y2 ≤ 7) ∧ ((x = x2 ∧ (y2 = y + 1 ∨ y = y2 + 1)) ∨ (y = y2 ∧ (x2 = x + 1 ∨ x = x2 + 1)))
def overL (x y x2 y2 : Int) : Lk := (min x x2, min y y2, x == x2)
theorem size_any (n : Int) (h : -100 ≤ n ∧ n ≤ 100) (w : World) :
    Calls Try.prog 171 #[.int .i64 n] w fun e w' => e = .returned (.int .i64 (max n (-n))) ∧ Below w.heap.size w w' := by
  obtain ⟨h1, h2⟩ := h
  go_enter Try.func171, Try.ntmps171
  go_wp2_with fail
  all_goals
    go_ret
    exact ⟨ret_int (by omega), Below.refl _ _⟩
set_option maxRecDepth 100000 in
set_option maxHeartbeats 4000000 in
theorem AreN_yes (x y x2 y2 : Int) (h : nextB x y x2 y2) (w : World) :
    Calls Try.prog 152 #[spotV x y, spotV x2 y2] w fun e w' => e = .returned (.bool true) ∧ Below w.heap.size w w' := by
  obtain ⟨W, hW, k1, k2, hb⟩ := two_alloc w (.cells #[.int .i64 x, .int .i64 y] 44) (.cells #[.int .i64 x2, .int .i64 y2] 44)
  have HW := Lib.hid hW
  have HB := Lib.hid hb
  have HS : Hid (TwoC W W w.heap.size (w.heap.size + 1) x y x2 y2) := ⟨by rw [blk_cell k1]; rfl, by rw [blk_cell k1]; rfl, by rw [blk_cell k2]; rfl, by rw [blk_cell k2]; rfl, Nat.le_refl _, Below.refl _ _⟩
  have L1 := Lib.hid (lt_of_block k1)
  have L2 := Lib.hid (lt_of_block k2)
  obtain ⟨⟨a1, a2⟩, ⟨b1, b2⟩, ⟨c1, c2⟩, ⟨d1, d2⟩, hh⟩ := h
  have h1 : spotB 7 x y = true := (spotB_iff _ _ _).2 ⟨⟨a1, a2⟩, ⟨b1, b2⟩⟩
  have h2 : spotB 7 x2 y2 = true := (spotB_iff _ _ _).2 ⟨⟨c1, c2⟩, ⟨d1, d2⟩⟩
  have e1 : IntKind.i64.wrap (x - x2) = x - x2 := IntWalk.i64_in _ (by omega)
  have e2 : IntKind.i64.wrap (y - y2) = y - y2 := IntWalk.i64_in _ (by omega)
  have hC1 := Lib.hid fun V => size_any (x - x2) (by omega) V
  have hC2 := Lib.hid fun V => size_any (y - y2) (by omega) V
  have e3 : max (x - x2) (-(x - x2)) + max (y - y2) (-(y - y2)) = 1 := by omega
  generalize max (x - x2) (-(x - x2)) = m1 at *
  generalize max (y - y2) (-(y - y2)) = m2 at *
  have H1 := Lib.hid h1; have H2 := Lib.hid h2
  clear hW hb k1 k2 h1 h2 hh
  go_enter Try.func152, Try.ntmps152
  go_wp2_with fail
  rw [← HW.out]
  go_region_held3 (fun w' => TwoC W w' w.heap.size (w.heap.size + 1) x y x2 y2)
    (first
      | exact HS.out.drew
      | exact TwoC.keep hb1 L1.out L2.out (by assumption))
    (first
      | (go_at_call 138; (with_reducible refine (CellOk_any x y _).mono ?_); rintro e w1 ⟨rfl, hb1⟩; rw [H1.out])
      | (go_at_call 138; (with_reducible refine (CellOk_any x2 y2 _).mono ?_); rintro e w1 ⟨rfl, hb1⟩; rw [H2.out])
      | (go_at_call 171; (with_reducible refine (hC1.out _).mono ?_); rintro e w1 ⟨rfl, hb1⟩)
      | (go_at_call 171; (with_reducible refine (hC2.out _).mono ?_); rintro e w1 ⟨rfl, hb1⟩))
  have HB4 := Lib.hid (HB.out.trans ((show TwoC W _ w.heap.size (w.heap.size + 1) x y x2 y2 from by assumption).2.2.2.2.2.mono HB.out.size))
  go_wp2_with fail
  go_ret
  exact ⟨rfl, HB4.out⟩
set_option maxRecDepth 100000 in
set_option maxHeartbeats 4000000 in
theorem specAreN_yes (x y x2 y2 : Int) (h : nextB x y x2 y2) (w : World) :
    Calls Try.prog 165 #[spotV x y, spotV x2 y2] w fun e w' => e = .returned (.bool true) ∧ Below w.heap.size w w' := by
  obtain ⟨W, hW, k1, k2, hb⟩ := two_alloc w (.cells #[.int .i64 x, .int .i64 y] 44) (.cells #[.int .i64 x2, .int .i64 y2] 44)
  have HW := Lib.hid hW
  have HB := Lib.hid hb
  have HS : Hid (TwoC W W w.heap.size (w.heap.size + 1) x y x2 y2) := ⟨by rw [blk_cell k1]; rfl, by rw [blk_cell k1]; rfl, by rw [blk_cell k2]; rfl, by rw [blk_cell k2]; rfl, Nat.le_refl _, Below.refl _ _⟩
  have L1 := Lib.hid (lt_of_block k1)
  have L2 := Lib.hid (lt_of_block k2)
  obtain ⟨⟨a1, a2⟩, ⟨b1, b2⟩, ⟨c1, c2⟩, ⟨d1, d2⟩, hh⟩ := h
  have H1 := Lib.hid (show spotB 7 x y = true from (spotB_iff _ _ _).2 ⟨⟨a1, a2⟩, ⟨b1, b2⟩⟩)
  have H2 := Lib.hid (show spotB 7 x2 y2 = true from (spotB_iff _ _ _).2 ⟨⟨c1, c2⟩, ⟨d1, d2⟩⟩)
  have hs : (x - x2 = 0 ∧ y - y2 = 1) ∨ (x - x2 = 0 ∧ y - y2 = -1) ∨ (x - x2 = 1 ∧ y - y2 = 0) ∨ (x - x2 = -1 ∧ y - y2 = 0) := by omega
  clear hW hb k1 k2 hh
  rcases hs with ⟨s1, s2⟩ | ⟨s1, s2⟩ | ⟨s1, s2⟩ | ⟨s1, s2⟩
  all_goals
    obtain ⟨f1, f2, f3, f4, _⟩ := HS.out
    go_enter Try.func165, Try.ntmps165
    go_upto_region 1 with (fail)
    rw [← HW.out]
    go_wp2_with fail
    refine (specCellOk_any _ _ _).mono ?_
    rintro e w3 ⟨rfl, hb3⟩
    rw [H1.out]
    have HT3 := Lib.hid (TwoC.keep hb3 L1.out L2.out HS.out)
    clear f1 f2 f3 f4 hb3
    obtain ⟨f1, f2, f3, f4, _⟩ := HT3.out
    go_wp2_with fail
    refine (specCellOk_any _ _ _).mono ?_
    rintro e w4 ⟨rfl, hb4⟩
    rw [H2.out]
    have HT4 := Lib.hid (TwoC.keep hb4 L1.out L2.out HT3.out)
    clear f1 f2 f3 f4 hb4
    obtain ⟨f1, f2, f3, f4, _⟩ := HT4.out
    have HB4 := Lib.hid (HB.out.trans (HT4.out.2.2.2.2.2.mono HB.out.size))
    go_wp2_with fail
    go_ret
    exact ⟨rfl, HB4.out⟩
set_option maxRecDepth 100000 in
set_option maxHeartbeats 4000000 in
theorem DominoOver_yes (x y x2 y2 : Int) (h : nextB x y x2 y2) (w : World) :
    Calls Try.prog 101 #[spotV x y, spotV x2 y2] w fun e w' => e = .returned (.tuple #[triV (overL x y x2 y2).1 (overL x y x2 y2).2.1 (overL x y x2 y2).2.2, .bool true]) ∧ Below w.heap.size w w' := by
  obtain ⟨W, hW, k1, k2, k3, hb⟩ := three_alloc w (.cells #[.int .i64 x, .int .i64 y] 44) (.cells #[.int .i64 x2, .int .i64 y2] 44) (triO 0 0 false 46)
  have HW := Lib.hid hW
  have HB := Lib.hid hb
  have HK1 := Lib.hid k1; have HK2 := Lib.hid k2; have HK3 := Lib.hid k3
  have a0 : W.cell? ⟨w.heap.size, 0, none⟩ = some (.int .i64 x) := by rw [blk_cell k1]; rfl
  have a1 : W.cell? ⟨w.heap.size, 1, none⟩ = some (.int .i64 y) := by rw [blk_cell k1]; rfl
  have a2 : W.cell? ⟨w.heap.size + 1, 0, none⟩ = some (.int .i64 x2) := by rw [blk_cell k2]; rfl
  have a3 : W.cell? ⟨w.heap.size + 1, 1, none⟩ = some (.int .i64 y2) := by rw [blk_cell k2]; rfl
  have HN := Lib.hid (fun V => AreN_yes x y x2 y2 h V)
  obtain ⟨mx, HMX⟩ : ∃ mx, Hid ((overL x y x2 y2).1 = mx) := ⟨_, rfl⟩
  obtain ⟨my, HMY⟩ : ∃ my, Hid ((overL x y x2 y2).2.1 = my) := ⟨_, rfl⟩
  have HMD : Hid ((overL x y x2 y2).2.2 = (x == x2)) := rfl
  have HMXE : Hid (mx = min x x2) := HMX.out.symm
  have HMYE : Hid (my = min y y2) := HMY.out.symm
  rw [HMX.out, HMY.out, HMD.out]
  clear hW hb k1 k2 k3 HMX HMY HMD h
  go_enter Try.func101, Try.ntmps101
  go_upto_region 1 with (fail)
  rw [← HW.out]
  go_wp2_with fail
  refine (HN.out _).mono ?_
  rintro e w1 ⟨rfl, hb1⟩
  have k1 := blk_below HK1.out hb1
  have k2 := blk_below HK2.out hb1
  have k3 := blk_below HK3.out hb1
  have HB1 := Lib.hid (HB.out.trans (hb1.mono HB.out.size))
  clear a0 a1 a2 a3 hb1
  have a0 : w1.cell? ⟨w.heap.size, 0, none⟩ = some (.int .i64 x) := by rw [blk_cell k1]; rfl
  have a1 : w1.cell? ⟨w.heap.size, 1, none⟩ = some (.int .i64 y) := by rw [blk_cell k1]; rfl
  have a2 : w1.cell? ⟨w.heap.size + 1, 0, none⟩ = some (.int .i64 x2) := by rw [blk_cell k2]; rfl
  have a3 : w1.cell? ⟨w.heap.size + 1, 1, none⟩ = some (.int .i64 y2) := by rw [blk_cell k2]; rfl
  have b0 : w1.cell? ⟨w.heap.size + 1 + 1, 0, none⟩ = some (.int .i64 0) := by rw [blk_cell k3]; rfl
  have b1 : w1.cell? ⟨w.heap.size + 1 + 1, 1, none⟩ = some (.int .i64 0) := by rw [blk_cell k3]; rfl
  have b2 : w1.cell? ⟨w.heap.size + 1 + 1, 2, none⟩ = some (.bool false) := by rw [blk_cell k3]; rfl
  have fr : ∀ o, w1.frozen? ⟨w.heap.size + 1 + 1, o, none⟩ = false := fun o => blk_free k3
  have hX := Lib.hid (blk_setCell (k := 2) (blk_setCell (k := 1) (blk_setCell (k := 0) k3 (.int .i64 mx)) (.int .i64 my)) (.bool (x == x2)))
  have hBX : Hid (Below w.heap.size w (((w1.setCell ⟨w.heap.size + 2, 0, none⟩ (.int .i64 mx)).setCell ⟨w.heap.size + 2, 1, none⟩ (.int .i64 my)).setCell ⟨w.heap.size + 2, 2, none⟩ (.bool (x == x2)))) := ((HB1.out.setCell (p := ⟨w.heap.size + 2, 0, none⟩) (by simp) _).setCell (p := ⟨w.heap.size + 2, 1, none⟩) (by simp) _).setCell (p := ⟨w.heap.size + 2, 2, none⟩) (by simp) _
  have hfin : ∀ V : World, Hid (V.heap[w.heap.size + 2]? = some (triO mx my (x == x2) 46)) → V.cell? ⟨w.heap.size + 1 + 1, 0, none⟩ = some (.int .i64 mx) ∧ V.cell? ⟨w.heap.size + 1 + 1, 1, none⟩ = some (.int .i64 my) ∧ V.cell? ⟨w.heap.size + 1 + 1, 2, none⟩ = some (.bool (x == x2)) := fun V hV => ⟨by rw [show w.heap.size + 1 + 1 = w.heap.size + 2 from rfl, blk_cell hV.out]; rfl, by rw [show w.heap.size + 1 + 1 = w.heap.size + 2 from rfl, blk_cell hV.out]; rfl, by rw [show w.heap.size + 1 + 1 = w.heap.size + 2 from rfl, blk_cell hV.out]; rfl⟩
  have hfin := Lib.hid hfin
  clear k1 k2 k3
  by_cases hx : x ≤ x2
  · by_cases hy : y ≤ y2
    · skip
      have e1 : mx = x := by have := HMXE.out; omega
      have e2 : my = y := by have := HMYE.out; omega
      rw [e1, e2] at hX hBX hfin
      have E1 := Lib.hid e1; have E2 := Lib.hid e2
      clear e1 e2
      go_wp2_with fail
      obtain ⟨X, HXQ⟩ : ∃ X, Hid (X = ((w1.setCell ⟨w.heap.size + 2, 0, none⟩ (.int .i64 x)).setCell ⟨w.heap.size + 2, 1, none⟩ (.int .i64 y)).setCell ⟨w.heap.size + 2, 2, none⟩ (.bool (x == x2))) := ⟨_, rfl⟩
      have hX1 := hX.out
      have hBX1 := hBX.out
      rw [← HXQ.out] at hX1 hBX1
      obtain ⟨r0, r1, r2⟩ := hfin.out X (by simpa [Hid] using hX1)
      show bodyPost _ _ _ _ _ (((w1.setCell ⟨w.heap.size + 2, 0, none⟩ (.int .i64 x)).setCell ⟨w.heap.size + 2, 1, none⟩ (.int .i64 y)).setCell ⟨w.heap.size + 2, 2, none⟩ (.bool (x == x2)))
      rw [← HXQ.out]
      exact bodyPost_ret (v := .tuple #[triV x y (x == x2), .bool true]) (by simp [results, Try.results101, go_sem, r0, r1, r2]) rfl ⟨by rw [E1.out, E2.out], hBX1⟩
    · have hy' : y2 < y := by omega
      clear hy
      have e1 : mx = x := by have := HMXE.out; omega
      have e2 : my = y2 := by have := HMYE.out; omega
      rw [e1, e2] at hX hBX hfin
      have E1 := Lib.hid e1; have E2 := Lib.hid e2
      clear e1 e2
      go_wp2_with fail
      obtain ⟨X, HXQ⟩ : ∃ X, Hid (X = ((w1.setCell ⟨w.heap.size + 2, 0, none⟩ (.int .i64 x)).setCell ⟨w.heap.size + 2, 1, none⟩ (.int .i64 y2)).setCell ⟨w.heap.size + 2, 2, none⟩ (.bool (x == x2))) := ⟨_, rfl⟩
      have hX1 := hX.out
      have hBX1 := hBX.out
      rw [← HXQ.out] at hX1 hBX1
      obtain ⟨r0, r1, r2⟩ := hfin.out X (by simpa [Hid] using hX1)
      show bodyPost _ _ _ _ _ (((w1.setCell ⟨w.heap.size + 2, 0, none⟩ (.int .i64 x)).setCell ⟨w.heap.size + 2, 1, none⟩ (.int .i64 y2)).setCell ⟨w.heap.size + 2, 2, none⟩ (.bool (x == x2)))
      rw [← HXQ.out]
      exact bodyPost_ret (v := .tuple #[triV x y2 (x == x2), .bool true]) (by simp [results, Try.results101, go_sem, r0, r1, r2]) rfl ⟨by rw [E1.out, E2.out], hBX1⟩
  · have hx' : x2 < x := by omega
    clear hx
    by_cases hy : y ≤ y2
    · skip
      have e1 : mx = x2 := by have := HMXE.out; omega
      have e2 : my = y := by have := HMYE.out; omega
      rw [e1, e2] at hX hBX hfin
      have E1 := Lib.hid e1; have E2 := Lib.hid e2
      clear e1 e2
      go_wp2_with fail
      obtain ⟨X, HXQ⟩ : ∃ X, Hid (X = ((w1.setCell ⟨w.heap.size + 2, 0, none⟩ (.int .i64 x2)).setCell ⟨w.heap.size + 2, 1, none⟩ (.int .i64 y)).setCell ⟨w.heap.size + 2, 2, none⟩ (.bool (x == x2))) := ⟨_, rfl⟩
      have hX1 := hX.out
      have hBX1 := hBX.out
      rw [← HXQ.out] at hX1 hBX1
      obtain ⟨r0, r1, r2⟩ := hfin.out X (by simpa [Hid] using hX1)
      show bodyPost _ _ _ _ _ (((w1.setCell ⟨w.heap.size + 2, 0, none⟩ (.int .i64 x2)).setCell ⟨w.heap.size + 2, 1, none⟩ (.int .i64 y)).setCell ⟨w.heap.size + 2, 2, none⟩ (.bool (x == x2)))
      rw [← HXQ.out]
      exact bodyPost_ret (v := .tuple #[triV x2 y (x == x2), .bool true]) (by simp [results, Try.results101, go_sem, r0, r1, r2]) rfl ⟨by rw [E1.out, E2.out], hBX1⟩
    · have hy' : y2 < y := by omega
      clear hy
      have e1 : mx = x2 := by have := HMXE.out; omega
      have e2 : my = y2 := by have := HMYE.out; omega
      rw [e1, e2] at hX hBX hfin
      have E1 := Lib.hid e1; have E2 := Lib.hid e2
      clear e1 e2
      go_wp2_with fail
      obtain ⟨X, HXQ⟩ : ∃ X, Hid (X = ((w1.setCell ⟨w.heap.size + 2, 0, none⟩ (.int .i64 x2)).setCell ⟨w.heap.size + 2, 1, none⟩ (.int .i64 y2)).setCell ⟨w.heap.size + 2, 2, none⟩ (.bool (x == x2))) := ⟨_, rfl⟩
      have hX1 := hX.out
      have hBX1 := hBX.out
      rw [← HXQ.out] at hX1 hBX1
      obtain ⟨r0, r1, r2⟩ := hfin.out X (by simpa [Hid] using hX1)
      show bodyPost _ _ _ _ _ (((w1.setCell ⟨w.heap.size + 2, 0, none⟩ (.int .i64 x2)).setCell ⟨w.heap.size + 2, 1, none⟩ (.int .i64 y2)).setCell ⟨w.heap.size + 2, 2, none⟩ (.bool (x == x2)))
      rw [← HXQ.out]
      exact bodyPost_ret (v := .tuple #[triV x2 y2 (x == x2), .bool true]) (by simp [results, Try.results101, go_sem, r0, r1, r2]) rfl ⟨by rw [E1.out, E2.out], hBX1⟩
set_option maxRecDepth 100000 in
set_option maxHeartbeats 4000000 in
theorem specDominoOver_yes (x y x2 y2 : Int) (h : nextB x y x2 y2) (w : World) :
    Calls Try.prog 133 #[spotV x y, spotV x2 y2] w fun e w' => e = .returned (.tuple #[triV (overL x y x2 y2).1 (overL x y x2 y2).2.1 (overL x y x2 y2).2.2, .bool true]) ∧ Below w.heap.size w w' := by
  obtain ⟨W, hW, k1, k2, k3, hb⟩ := three_alloc w (.cells #[.int .i64 x, .int .i64 y] 44) (.cells #[.int .i64 x2, .int .i64 y2] 44) (triO 0 0 false 46)
  have HW := Lib.hid hW
  have HB := Lib.hid hb
  have HK1 := Lib.hid k1; have HK2 := Lib.hid k2; have HK3 := Lib.hid k3
  have a0 : W.cell? ⟨w.heap.size, 0, none⟩ = some (.int .i64 x) := by rw [blk_cell k1]; rfl
  have a1 : W.cell? ⟨w.heap.size, 1, none⟩ = some (.int .i64 y) := by rw [blk_cell k1]; rfl
  have a2 : W.cell? ⟨w.heap.size + 1, 0, none⟩ = some (.int .i64 x2) := by rw [blk_cell k2]; rfl
  have a3 : W.cell? ⟨w.heap.size + 1, 1, none⟩ = some (.int .i64 y2) := by rw [blk_cell k2]; rfl
  have HN := Lib.hid (fun V => specAreN_yes x y x2 y2 h V)
  obtain ⟨mx, HMX⟩ : ∃ mx, Hid ((overL x y x2 y2).1 = mx) := ⟨_, rfl⟩
  obtain ⟨my, HMY⟩ : ∃ my, Hid ((overL x y x2 y2).2.1 = my) := ⟨_, rfl⟩
  have HMD : Hid ((overL x y x2 y2).2.2 = (x == x2)) := rfl
  have HMXE : Hid (mx = min x x2) := HMX.out.symm
  have HMYE : Hid (my = min y y2) := HMY.out.symm
  rw [HMX.out, HMY.out, HMD.out]
  clear hW hb k1 k2 k3 HMX HMY HMD h
  go_enter Try.func133, Try.ntmps133
  go_upto_region 1 with (fail)
  rw [← HW.out]
  go_wp2_with fail
  refine (HN.out _).mono ?_
  rintro e w1 ⟨rfl, hb1⟩
  have k1 := blk_below HK1.out hb1
  have k2 := blk_below HK2.out hb1
  have k3 := blk_below HK3.out hb1
  have HB1 := Lib.hid (HB.out.trans (hb1.mono HB.out.size))
  clear a0 a1 a2 a3 hb1
  have a0 : w1.cell? ⟨w.heap.size, 0, none⟩ = some (.int .i64 x) := by rw [blk_cell k1]; rfl
  have a1 : w1.cell? ⟨w.heap.size, 1, none⟩ = some (.int .i64 y) := by rw [blk_cell k1]; rfl
  have a2 : w1.cell? ⟨w.heap.size + 1, 0, none⟩ = some (.int .i64 x2) := by rw [blk_cell k2]; rfl
  have a3 : w1.cell? ⟨w.heap.size + 1, 1, none⟩ = some (.int .i64 y2) := by rw [blk_cell k2]; rfl
  have b0 : w1.cell? ⟨w.heap.size + 1 + 1, 0, none⟩ = some (.int .i64 0) := by rw [blk_cell k3]; rfl
  have b1 : w1.cell? ⟨w.heap.size + 1 + 1, 1, none⟩ = some (.int .i64 0) := by rw [blk_cell k3]; rfl
  have b2 : w1.cell? ⟨w.heap.size + 1 + 1, 2, none⟩ = some (.bool false) := by rw [blk_cell k3]; rfl
  have fr : ∀ o, w1.frozen? ⟨w.heap.size + 1 + 1, o, none⟩ = false := fun o => blk_free k3
  have hX := Lib.hid (blk_setCell (k := 2) (blk_setCell (k := 1) (blk_setCell (k := 0) k3 (.int .i64 mx)) (.int .i64 my)) (.bool (x == x2)))
  have hBX : Hid (Below w.heap.size w (((w1.setCell ⟨w.heap.size + 2, 0, none⟩ (.int .i64 mx)).setCell ⟨w.heap.size + 2, 1, none⟩ (.int .i64 my)).setCell ⟨w.heap.size + 2, 2, none⟩ (.bool (x == x2)))) := ((HB1.out.setCell (p := ⟨w.heap.size + 2, 0, none⟩) (by simp) _).setCell (p := ⟨w.heap.size + 2, 1, none⟩) (by simp) _).setCell (p := ⟨w.heap.size + 2, 2, none⟩) (by simp) _
  have hfin : ∀ V : World, Hid (V.heap[w.heap.size + 2]? = some (triO mx my (x == x2) 46)) → V.cell? ⟨w.heap.size + 1 + 1, 0, none⟩ = some (.int .i64 mx) ∧ V.cell? ⟨w.heap.size + 1 + 1, 1, none⟩ = some (.int .i64 my) ∧ V.cell? ⟨w.heap.size + 1 + 1, 2, none⟩ = some (.bool (x == x2)) := fun V hV => ⟨by rw [show w.heap.size + 1 + 1 = w.heap.size + 2 from rfl, blk_cell hV.out]; rfl, by rw [show w.heap.size + 1 + 1 = w.heap.size + 2 from rfl, blk_cell hV.out]; rfl, by rw [show w.heap.size + 1 + 1 = w.heap.size + 2 from rfl, blk_cell hV.out]; rfl⟩
  have hfin := Lib.hid hfin
  clear k1 k2 k3
  by_cases hx : x ≤ x2
  · by_cases hy : y ≤ y2
    · skip
      have e1 : mx = x := by have := HMXE.out; omega
      have e2 : my = y := by have := HMYE.out; omega
      rw [e1, e2] at hX hBX hfin
      have E1 := Lib.hid e1; have E2 := Lib.hid e2
      clear e1 e2
      go_wp2_with fail
      obtain ⟨X, HXQ⟩ : ∃ X, Hid (X = ((w1.setCell ⟨w.heap.size + 2, 0, none⟩ (.int .i64 x)).setCell ⟨w.heap.size + 2, 1, none⟩ (.int .i64 y)).setCell ⟨w.heap.size + 2, 2, none⟩ (.bool (x == x2))) := ⟨_, rfl⟩
      have hX1 := hX.out
      have hBX1 := hBX.out
      rw [← HXQ.out] at hX1 hBX1
      obtain ⟨r0, r1, r2⟩ := hfin.out X (by simpa [Hid] using hX1)
      show bodyPost _ _ _ _ _ (((w1.setCell ⟨w.heap.size + 2, 0, none⟩ (.int .i64 x)).setCell ⟨w.heap.size + 2, 1, none⟩ (.int .i64 y)).setCell ⟨w.heap.size + 2, 2, none⟩ (.bool (x == x2)))
      rw [← HXQ.out]
      exact bodyPost_ret (v := .tuple #[triV x y (x == x2), .bool true]) (by simp [results, Try.results133, go_sem, r0, r1, r2]) rfl ⟨by rw [E1.out, E2.out], hBX1⟩
    · have hy' : y2 < y := by omega
      clear hy
      have e1 : mx = x := by have := HMXE.out; omega
      have e2 : my = y2 := by have := HMYE.out; omega
      rw [e1, e2] at hX hBX hfin
      have E1 := Lib.hid e1; have E2 := Lib.hid e2
      clear e1 e2
      go_wp2_with fail
      obtain ⟨X, HXQ⟩ : ∃ X, Hid (X = ((w1.setCell ⟨w.heap.size + 2, 0, none⟩ (.int .i64 x)).setCell ⟨w.heap.size + 2, 1, none⟩ (.int .i64 y2)).setCell ⟨w.heap.size + 2, 2, none⟩ (.bool (x == x2))) := ⟨_, rfl⟩
      have hX1 := hX.out
      have hBX1 := hBX.out
      rw [← HXQ.out] at hX1 hBX1
      obtain ⟨r0, r1, r2⟩ := hfin.out X (by simpa [Hid] using hX1)
      show bodyPost _ _ _ _ _ (((w1.setCell ⟨w.heap.size + 2, 0, none⟩ (.int .i64 x)).setCell ⟨w.heap.size + 2, 1, none⟩ (.int .i64 y2)).setCell ⟨w.heap.size + 2, 2, none⟩ (.bool (x == x2)))
      rw [← HXQ.out]
      exact bodyPost_ret (v := .tuple #[triV x y2 (x == x2), .bool true]) (by simp [results, Try.results133, go_sem, r0, r1, r2]) rfl ⟨by rw [E1.out, E2.out], hBX1⟩
  · have hx' : x2 < x := by omega
    clear hx
    by_cases hy : y ≤ y2
    · skip
      have e1 : mx = x2 := by have := HMXE.out; omega
      have e2 : my = y := by have := HMYE.out; omega
      rw [e1, e2] at hX hBX hfin
      have E1 := Lib.hid e1; have E2 := Lib.hid e2
      clear e1 e2
      go_wp2_with fail
      obtain ⟨X, HXQ⟩ : ∃ X, Hid (X = ((w1.setCell ⟨w.heap.size + 2, 0, none⟩ (.int .i64 x2)).setCell ⟨w.heap.size + 2, 1, none⟩ (.int .i64 y)).setCell ⟨w.heap.size + 2, 2, none⟩ (.bool (x == x2))) := ⟨_, rfl⟩
      have hX1 := hX.out
      have hBX1 := hBX.out
      rw [← HXQ.out] at hX1 hBX1
      obtain ⟨r0, r1, r2⟩ := hfin.out X (by simpa [Hid] using hX1)
      show bodyPost _ _ _ _ _ (((w1.setCell ⟨w.heap.size + 2, 0, none⟩ (.int .i64 x2)).setCell ⟨w.heap.size + 2, 1, none⟩ (.int .i64 y)).setCell ⟨w.heap.size + 2, 2, none⟩ (.bool (x == x2)))
      rw [← HXQ.out]
      exact bodyPost_ret (v := .tuple #[triV x2 y (x == x2), .bool true]) (by simp [results, Try.results133, go_sem, r0, r1, r2]) rfl ⟨by rw [E1.out, E2.out], hBX1⟩
    · have hy' : y2 < y := by omega
      clear hy
      have e1 : mx = x2 := by have := HMXE.out; omega
      have e2 : my = y2 := by have := HMYE.out; omega
      rw [e1, e2] at hX hBX hfin
      have E1 := Lib.hid e1; have E2 := Lib.hid e2
      clear e1 e2
      go_wp2_with fail
      obtain ⟨X, HXQ⟩ : ∃ X, Hid (X = ((w1.setCell ⟨w.heap.size + 2, 0, none⟩ (.int .i64 x2)).setCell ⟨w.heap.size + 2, 1, none⟩ (.int .i64 y2)).setCell ⟨w.heap.size + 2, 2, none⟩ (.bool (x == x2))) := ⟨_, rfl⟩
      have hX1 := hX.out
      have hBX1 := hBX.out
      rw [← HXQ.out] at hX1 hBX1
      obtain ⟨r0, r1, r2⟩ := hfin.out X (by simpa [Hid] using hX1)
      show bodyPost _ _ _ _ _ (((w1.setCell ⟨w.heap.size + 2, 0, none⟩ (.int .i64 x2)).setCell ⟨w.heap.size + 2, 1, none⟩ (.int .i64 y2)).setCell ⟨w.heap.size + 2, 2, none⟩ (.bool (x == x2)))
      rw [← HXQ.out]
      exact bodyPost_ret (v := .tuple #[triV x2 y2 (x == x2), .bool true]) (by simp [results, Try.results133, go_sem, r0, r1, r2]) rfl ⟨by rw [E1.out, E2.out], hBX1⟩
end Go.Proofs.Ytehnbalbpfmijaa

namespace Go.Proofs.Ytehnbalbpfmijaa
open Go.RowKit
set_option linter.unusedVariables false

/-- A cell, turned (t) or mirrored. -/
def mapC (t : Bool) (s x y : Int) : Int × Int := if t then (s - 1 - y, x) else (s - 1 - x, y)
def movL (t : Bool) (s : Int) (l : Lk) : Lk :=
  overL (mapC t s l.1 l.2.1).1 (mapC t s l.1 l.2.1).2 (mapC t s (sndX l.1 l.2.2) (sndY l.2.1 l.2.2)).1 (mapC t s (sndX l.1 l.2.2) (sndY l.2.1 l.2.2)).2
def movTo (t : Bool) (s : Int) (ls : List Lk) : Nat → List Lk
  | 0 => []
  | k + 1 => movTo t s ls k ++ [movL t s (dAt ls k)]
theorem movTo_len (t : Bool) (s : Int) (ls : List Lk) : ∀ k, (movTo t s ls k).length = k
  | 0 => rfl
  | k + 1 => by rw [movTo, List.length_append, movTo_len t s ls k]; rfl
/-- What MirrorTiling and TurnTiling return. -/
def movZ (t : Bool) (s : Int) (ls : List Lk) : List Lk := if fltB s s ls then sortI (movTo t s ls ls.length) ls.length else []
theorem rect_bit_tab : ((List.range 9).all fun s => (List.range 8).all fun x => (List.range 8).all fun y => (setZ (rectZ s s)).testBit (cix x y) == (decide (x < s) && decide (y < s))) = true := by decide +kernel
theorem rect_bit (s x y : Nat) (hs : s ≤ 8) (hx : x ≤ 7) (hy : y ≤ 7) : (setZ (rectZ s s)).testBit (cix x y) = (decide (x < s) && decide (y < s)) := by
  have h := rect_bit_tab
  rw [List.all_eq_true] at h
  have h := h s (by simp; omega)
  rw [List.all_eq_true] at h
  have h := h x (by simp; omega)
  rw [List.all_eq_true] at h
  have h := h y (by simp; omega)
  simpa using h
/-- A domino of a tiling of a square lies in it. -/
theorem tile_in {s : Nat} (hs : s ≤ 8) {ls : List Lk} (h : sTileB (setZ (rectZ s s)) ls = true) {k : Nat} (hk : k < ls.length) :
    domB (lx ls k) (ly ls k) (ld ls k) = true ∧ (0 ≤ lx ls k ∧ lx ls k < s) ∧ (0 ≤ ly ls k ∧ ly ls k < s) ∧ (0 ≤ sndX (lx ls k) (ld ls k) ∧ sndX (lx ls k) (ld ls k) < s) ∧ (0 ≤ sndY (ly ls k) (ld ls k) ∧ sndY (ly ls k) (ld ls k) < s) := by
  unfold sTileB sPartB at h
  rw [Bool.and_eq_true, upFrom_iff] at h
  have hq := h.1 k (Nat.zero_le _) hk
  unfold qAt at hq
  simp only [Bool.and_eq_true] at hq
  obtain ⟨⟨hd, _⟩, ⟨⟨ha, hb⟩, _⟩, _⟩ := hq
  have hd : domB (lx ls k) (ly ls k) (ld ls k) = true := hd
  refine ⟨hd, ?_⟩
  have hr := (domB_iff _ _ _).1 hd
  unfold dAt aI at ha
  unfold dAt bI at hb
  simp only at ha hb
  generalize lx ls k = x at *
  generalize ly ls k = y at *
  generalize ld ls k = d at *
  obtain ⟨⟨h1, h2⟩, h3⟩ := hr
  cases d
  · simp at h3
    rw [rect_bit s _ _ hs (by omega) (by omega)] at ha
    rw [if_neg (by simp), rect_bit s _ _ hs (by omega) (by omega)] at hb
    simp at ha hb
    have e : sndX x false = x + 1 := by unfold sndX wrap64; simp; omega
    have e2 : sndY y false = y := by unfold sndY; simp
    rw [e, e2]
    omega
  · simp at h3
    rw [rect_bit s _ _ hs (by omega) (by omega)] at ha
    rw [if_pos rfl, rect_bit s _ _ hs (by omega) (by omega)] at hb
    simp at ha hb
    have e : sndX x true = x := by unfold sndX; simp
    have e2 : sndY y true = y + 1 := by unfold sndY wrap64; simp; omega
    rw [e, e2]
    omega
theorem snd_next {x y : Int} {d : Bool} (h : domB x y d = true) : (sndX x d = x ∧ sndY y d = y + 1) ∨ (sndX x d = x + 1 ∧ sndY y d = y) := by
  have hr := (domB_iff _ _ _).1 h
  obtain ⟨⟨h1, h2⟩, h3⟩ := hr
  cases d
  · simp at h3
    exact .inr ⟨by unfold sndX wrap64; simp; omega, by unfold sndY; simp⟩
  · simp at h3
    exact .inl ⟨by unfold sndX; simp, by unfold sndY wrap64; simp; omega⟩
theorem next_mov (t : Bool) {s : Nat} (hs : s ≤ 8) {x y x2 y2 : Int} (h1 : 0 ≤ x ∧ x < s) (h2 : 0 ≤ y ∧ y < s) (h3 : 0 ≤ x2 ∧ x2 < s) (h4 : 0 ≤ y2 ∧ y2 < s) (h : (x2 = x ∧ y2 = y + 1) ∨ (x2 = x + 1 ∧ y2 = y)) :
    nextB (mapC t s x y).1 (mapC t s x y).2 (mapC t s x2 y2).1 (mapC t s x2 y2).2 := by
  unfold nextB mapC
  cases t <;> simp <;> omega
theorem tile_short {s : Nat} (hs : s ≤ 8) {ls : List Lk} (h : sTileB (setZ (rectZ s s)) ls = true) : ls.length ≤ 32 := by
  unfold sTileB at h
  rw [Bool.and_eq_true, decide_eq_true_eq] at h
  have key : ∀ R n, cntB R n ≤ n := by
    intro R n
    induction n with
    | zero => simp [cntB]
    | succ n ih => rw [cntB]; split <;> omega
  have := key (setZ (rectZ s s)) 64
  omega
end Go.Proofs.Ytehnbalbpfmijaa

namespace Go.Proofs.Ytehnbalbpfmijaa
open Go.RowKit
set_option linter.unusedVariables false

/-- The cells of a square. -/
def sqR (s : Nat) : Nat := setZ (rectZ s s)
theorem sq_lt {s : Nat} (hs : s = 2 ∨ s = 4 ∨ s = 6) : sqR s < 18446744073709551616 := by rcases hs with rfl | rfl | rfl <;> decide +kernel
theorem sqR_bit {s : Nat} (hs : s = 2 ∨ s = 4 ∨ s = 6) {i : Nat} (hi : i < 64) : (sqR s).testBit i = (decide (i % 8 < s) && decide (i / 8 < s)) := by
  have h := rect_bit s (i % 8) (i / 8) (by omega) (by omega) (by omega)
  have e : cix (i % 8) (i / 8) = i := by unfold cix; omega
  rw [e] at h
  exact h
def sizes : List Nat := [2, 4, 6]
theorem mem_sizes {s : Nat} (hs : s = 2 ∨ s = 4 ∨ s = 6) : s ∈ sizes := by rcases hs with rfl | rfl | rfl <;> simp [sizes]
/-- Where a cell goes. -/
def sgm (t : Bool) (s i : Nat) : Nat := cix (mapC t s ((i % 8 : Nat) : Int) ((i / 8 : Nat) : Int)).1.toNat (mapC t s ((i % 8 : Nat) : Int) ((i / 8 : Nat) : Int)).2.toNat
def inSq (s : Nat) (l : Lk) : Bool := domL l && (sqR s).testBit (aI l) && (sqR s).testBit (bI l)
theorem sgm_tab : (sizes.all fun s => [false, true].all fun t => (List.range 64).all fun i => !(sqR s).testBit i || (decide (sgm t s i < 64) && (sqR s).testBit (sgm t s i) && ((List.range 64).all fun j => !(sqR s).testBit j || sgm t s i != sgm t s j || i == j) && ((List.range 64).any fun j => (sqR s).testBit j && sgm t s j == i))) = true := by decide +kernel
theorem sgm_at {s : Nat} (hs : s = 2 ∨ s = 4 ∨ s = 6) (t : Bool) {i : Nat} (hi : i < 64) (h : (sqR s).testBit i = true) :
    (sgm t s i < 64 ∧ (sqR s).testBit (sgm t s i) = true) ∧ (∀ j, j < 64 → (sqR s).testBit j = true → sgm t s i = sgm t s j → i = j) ∧ ∃ j, j < 64 ∧ (sqR s).testBit j = true ∧ sgm t s j = i := by
  have h0 := List.all_eq_true.1 (List.all_eq_true.1 (List.all_eq_true.1 sgm_tab s (mem_sizes hs)) t (by cases t <;> simp)) i (by simpa using hi)
  rw [h, Bool.not_true, Bool.false_or, Bool.and_eq_true, Bool.and_eq_true, Bool.and_eq_true, decide_eq_true_eq] at h0
  obtain ⟨⟨⟨h1, h2⟩, h3⟩, h4⟩ := h0
  refine ⟨⟨h1, h2⟩, fun j hj hb he => ?_, ?_⟩
  · have g := List.all_eq_true.1 h3 j (by simpa using hj)
    rw [hb, he] at g
    simpa using g
  · obtain ⟨j, g1, g2⟩ := List.any_eq_true.1 h4
    rw [Bool.and_eq_true, beq_iff_eq] at g2
    exact ⟨j, by simpa using g1, g2⟩
def dTab : List Lk := (List.range 64).flatMap fun k => [dK k false, dK k true]
theorem mem_dTab {l : Lk} (h : domL l = true) : l ∈ dTab := by
  rw [dK_of h]
  refine List.mem_flatMap.2 ⟨aI l, by have := ab_lt h; simp; omega, ?_⟩
  cases l.2.2 <;> simp
theorem mov_tab : (sizes.all fun s => [false, true].all fun t => dTab.all fun l => !inSq s l || (inSq s (movL t s l) && ((aI (movL t s l) == sgm t s (aI l) && bI (movL t s l) == sgm t s (bI l)) || (aI (movL t s l) == sgm t s (bI l) && bI (movL t s l) == sgm t s (aI l))))) = true := by decide +kernel
theorem mov_at {s : Nat} (hs : s = 2 ∨ s = 4 ∨ s = 6) (t : Bool) {l : Lk} (h : inSq s l = true) :
    inSq s (movL t s l) = true ∧ ((aI (movL t s l) = sgm t s (aI l) ∧ bI (movL t s l) = sgm t s (bI l)) ∨ (aI (movL t s l) = sgm t s (bI l) ∧ bI (movL t s l) = sgm t s (aI l))) := by
  have hd : domL l = true := by unfold inSq at h; simp only [Bool.and_eq_true] at h; exact h.1.1
  have h0 := List.all_eq_true.1 (List.all_eq_true.1 (List.all_eq_true.1 mov_tab s (mem_sizes hs)) t (by cases t <;> simp)) l (mem_dTab hd)
  rw [h] at h0
  simpa using h0
theorem inSq_parts {s : Nat} {l : Lk} (h : inSq s l = true) : domL l = true ∧ (sqR s).testBit (aI l) = true ∧ (sqR s).testBit (bI l) = true := by
  unfold inSq at h; simp only [Bool.and_eq_true] at h; exact ⟨h.1.1, h.1.2, h.2⟩
theorem ovr_mov {s : Nat} (hs : s = 2 ∨ s = 4 ∨ s = 6) (t : Bool) {l : Lk} (h : inSq s l = true) {i : Nat} (hi : i < 64) (hb : (sqR s).testBit i = true) : ovr (movL t s l) (sgm t s i) = ovr l i := by
  obtain ⟨h1, h2, h3⟩ := inSq_parts h
  have hab := ab_lt h1
  obtain ⟨_, hm⟩ := mov_at hs t h
  have ia := (sgm_at hs t (show aI l < 64 by omega) h2).2.1 i hi hb
  have ib := (sgm_at hs t (show bI l < 64 by omega) h3).2.1 i hi hb
  unfold ovr
  rw [Bool.eq_iff_iff, Bool.or_eq_true, Bool.or_eq_true, beq_iff_eq, beq_iff_eq, beq_iff_eq, beq_iff_eq]
  rcases hm with ⟨e1, e2⟩ | ⟨e1, e2⟩
  · rw [e1, e2]
    exact ⟨fun h => h.elim (fun h => .inl (ia h)) fun h => .inr (ib h), fun h => h.elim (fun h => .inl (by rw [h])) fun h => .inr (by rw [h])⟩
  · rw [e1, e2]
    exact ⟨fun h => h.elim (fun h => .inr (ib h)) fun h => .inl (ia h), fun h => h.elim (fun h => .inr (by rw [h])) fun h => .inl (by rw [h])⟩
theorem movTo_map (t : Bool) (s : Int) (ls : List Lk) : ∀ k, k ≤ ls.length → movTo t s ls k = (ls.take k).map (movL t s)
  | 0, _ => by simp [movTo]
  | k + 1, hk => by rw [movTo, movTo_map t s ls k (by omega), take_get (by omega), List.map_append]; rfl
theorem til_in {R : Nat} {ls : List Lk} (h : Til R ls) {l : Lk} (hl : l ∈ ls) : domL l = true ∧ R.testBit (aI l) = true ∧ R.testBit (bI l) = true := by
  have hd := h.so.2 l hl
  have hab := ab_lt hd
  have key : ∀ i, i < 64 → ovr l i = true → R.testBit i = true := by
    intro i hi ho
    have g1 := cc_pos hl ho
    rw [h.cv i hi] at g1
    cases hb : R.testBit i
    · rw [hb] at g1; simp at g1
    · rfl
  exact ⟨hd, key _ (by omega) (by simp [ovr]), key _ (by omega) (by simp [ovr])⟩
theorem til_inSq {s : Nat} {ls : List Lk} (h : Til (sqR s) ls) {l : Lk} (hl : l ∈ ls) : inSq s l = true := by
  obtain ⟨h1, h2, h3⟩ := til_in h hl
  unfold inSq
  rw [h1, h2, h3]; rfl
theorem map_til {s : Nat} (hs : s = 2 ∨ s = 4 ∨ s = 6) (t : Bool) {ls : List Lk} (h : Til (sqR s) ls) :
    (∀ d ∈ ls.map (movL t s), domL d = true) ∧ ∀ i, i < 64 → cc (ls.map (movL t s)) i = if (sqR s).testBit i then 1 else 0 := by
  refine ⟨fun d hd => ?_, fun j hj => ?_⟩
  · obtain ⟨l, hl, rfl⟩ := List.mem_map.1 hd
    exact (inSq_parts (mov_at hs t (til_inSq h hl)).1).1
  · cases hb : (sqR s).testBit j
    · rw [if_neg (by simp)]
      unfold cc
      rw [List.countP_eq_zero]
      intro d hd ho
      obtain ⟨l, hl, rfl⟩ := List.mem_map.1 hd
      obtain ⟨_, g2, g3⟩ := inSq_parts (mov_at hs t (til_inSq h hl)).1
      unfold ovr at ho
      simp only [Bool.or_eq_true, beq_iff_eq] at ho
      rcases ho with rfl | rfl
      · rw [hb] at g2; simp at g2
      · rw [hb] at g3; simp at g3
    · obtain ⟨i, hi, hbi, rfl⟩ := (sgm_at hs t hj hb).2.2
      rw [if_pos rfl]
      have g := h.cv i hi
      rw [hbi, if_pos rfl] at g
      rw [← g]
      unfold cc
      rw [List.countP_map]
      refine List.countP_congr fun l hl => ?_
      rw [Function.comp, ovr_mov hs t (til_inSq h hl) hi hbi]
theorem flt_sq {s : Nat} (hs : s = 2 ∨ s = 4 ∨ s = 6) (ls : List Lk) : fltB s s ls = sTileB (sqR s) ls := by
  unfold fltB sqR
  have : inB (s : Int) 1 8 = true := by rw [inB_iff]; omega
  rw [this, Bool.true_and, Bool.true_and, Int.toNat_natCast]
/-- What is turned or mirrored is a tiling, and a list of the same dominoes, moved. -/
theorem mov_til {s : Nat} (hs : s = 2 ∨ s = 4 ∨ s = 6) (t : Bool) {ls : List Lk} (h : Til (sqR s) ls) : Til (sqR s) (movZ t s ls) ∧ (movZ t s ls).Perm (ls.map (movL t s)) := by
  have h1 := movTo_map t s ls ls.length (Nat.le_refl _)
  rw [List.take_length] at h1
  have e : movZ t s ls = sortI (ls.map (movL t s)) (ls.map (movL t s)).length := by
    unfold movZ
    rw [flt_sq hs, til_of h, if_pos rfl, h1, List.length_map]
  obtain ⟨m1, m2⟩ := map_til hs t h
  rw [e]
  have hn := nodup_of_cc m1 m2
  refine ⟨sort_til hn m1 m2, ?_⟩
  have := sortI_perm hn m1 _ (Nat.le_refl _)
  rwa [List.take_length] at this

/-! ### Fault lines -/
theorem free_all (down : Bool) (k : Nat) (ls : List Lk) : ∀ n, n ≤ ls.length → freeTo down k ls n = (ls.take n).all (okD down k)
  | 0, _ => by simp [freeTo]
  | n + 1, h => by rw [freeTo, free_all down k ls n (by omega), take_get (by omega), List.all_append]; simp
theorem free_len (down : Bool) (k : Nat) (ls : List Lk) : freeTo down k ls ls.length = ls.all (okD down k) := by rw [free_all _ _ _ _ (Nat.le_refl _), List.take_length]
theorem all_perm {l m : List Lk} (h : l.Perm m) (p : Lk → Bool) : l.all p = m.all p := by
  rw [Bool.eq_iff_iff, List.all_eq_true, List.all_eq_true]
  exact ⟨fun g x hx => g x (h.mem_iff.2 hx), fun g x hx => g x (h.mem_iff.1 hx)⟩
theorem okD_tab : (sizes.all fun s => dTab.all fun l => !inSq s l || (List.range s).all fun k => k == 0 || okD true k (movL true s l) == okD false (s - k) l) = true := by decide +kernel
theorem okD_mov {s : Nat} (hs : s = 2 ∨ s = 4 ∨ s = 6) {l : Lk} (h : inSq s l = true) {k : Nat} (h1 : 1 ≤ k) (h2 : k < s) : okD true k (movL true s l) = okD false (s - k) l := by
  have h0 := List.all_eq_true.1 (List.all_eq_true.1 okD_tab s (mem_sizes hs)) l (mem_dTab (inSq_parts h).1)
  rw [h, Bool.not_true, Bool.false_or] at h0
  have h3 := List.all_eq_true.1 h0 k (by simpa using h2)
  rw [Bool.or_eq_true, beq_iff_eq, beq_iff_eq] at h3
  rcases h3 with h3 | h3
  · omega
  · exact h3
theorem free_mov {s : Nat} (hs : s = 2 ∨ s = 4 ∨ s = 6) {ls : List Lk} (h : Til (sqR s) ls) {k : Nat} (h1 : 1 ≤ k) (h2 : k < s) :
    freeTo true k (movZ true s ls) (movZ true s ls).length = freeTo false (s - k) ls ls.length := by
  rw [free_len, free_len, all_perm (mov_til hs true h).2, List.all_map]
  rw [Bool.eq_iff_iff, List.all_eq_true, List.all_eq_true]
  constructor
  · intro g l hl
    rw [← okD_mov hs (til_inSq h hl) h1 h2]; exact g l hl
  · intro g l hl
    have := g l hl
    rw [← okD_mov hs (til_inSq h hl) h1 h2] at this
    exact this
theorem fltTo_len1 (down : Bool) (ls : List Lk) (k : Nat) : (fltTo down ls (k + 1)).length = (fltTo down ls k).length + (if freeTo down (k + 1) ls ls.length then 1 else 0) := by
  rw [fltTo, List.length_append]
  split <;> rfl
theorem flt_lens (down : Bool) (ls : List Lk) (b : Nat → Nat) (hb : ∀ k, b k = if freeTo down k ls ls.length then 1 else 0) :
    (fltTo down ls 1).length = b 1 ∧ (fltTo down ls 3).length = b 1 + b 2 + b 3 ∧ (fltTo down ls 5).length = b 1 + b 2 + b 3 + b 4 + b 5 := by
  have h0 : (fltTo down ls 0).length = 0 := rfl
  have h1 := fltTo_len1 down ls 0
  have h2 := fltTo_len1 down ls 1
  have h3 := fltTo_len1 down ls 2
  have h4 := fltTo_len1 down ls 3
  have h5 := fltTo_len1 down ls 4
  simp only [← hb, Nat.zero_add, Nat.reduceAdd] at h1 h2 h3 h4 h5
  refine ⟨?_, ?_, ?_⟩ <;> omega
/-- A turned tiling's lines down are the lines across. -/
theorem flt_turn {s : Nat} (hs : s = 2 ∨ s = 4 ∨ s = 6) {ls : List Lk} (h : Til (sqR s) ls) : (fltZ s s s true (movZ true s ls)).length = (fltZ s s s false ls).length := by
  have e1 : fltZ s s s true (movZ true s ls) = fltTo true (movZ true s ls) (s - 1) := by
    unfold fltZ; rw [flt_sq hs, til_of (mov_til hs true h).1, if_pos rfl, Int.toNat_natCast]
  have e2 : fltZ s s s false ls = fltTo false ls (s - 1) := by
    unfold fltZ; rw [flt_sq hs, til_of h, if_pos rfl, Int.toNat_natCast]
  rw [e1, e2]
  have hf := fun k h1 h2 => free_mov hs h (k := k) h1 h2
  obtain ⟨p1, p3, p5⟩ := flt_lens true (movZ true s ls) (fun k => if freeTo true k (movZ true s ls) (movZ true s ls).length then 1 else 0) fun _ => rfl
  obtain ⟨q1, q3, q5⟩ := flt_lens false ls (fun k => if freeTo false k ls ls.length then 1 else 0) fun _ => rfl
  rcases hs with rfl | rfl | rfl
  · have f1 := hf 1 (by omega) (by omega)
    simp only [Nat.reduceSub] at f1 ⊢
    rw [p1, q1, f1]
  · have f1 := hf 1 (by omega) (by omega)
    have f2 := hf 2 (by omega) (by omega)
    have f3 := hf 3 (by omega) (by omega)
    simp only [Nat.reduceSub] at f1 f2 f3 ⊢
    rw [p3, q3, f1, f2, f3]
    omega
  · have f1 := hf 1 (by omega) (by omega)
    have f2 := hf 2 (by omega) (by omega)
    have f3 := hf 3 (by omega) (by omega)
    have f4 := hf 4 (by omega) (by omega)
    have f5 := hf 5 (by omega) (by omega)
    simp only [Nat.reduceSub] at f1 f2 f3 f4 f5 ⊢
    rw [p5, q5, f1, f2, f3, f4, f5]
    omega

/-! ### Every tiling of a small square has a fault line -/
def sm (f : Nat → Nat) : Nat → Nat
  | 0 => 0
  | n + 1 => sm f n + f n
theorem sm_add (f g : Nat → Nat) : ∀ n, sm (fun i => f i + g i) n = sm f n + sm g n
  | 0 => rfl
  | n + 1 => by simp only [sm, sm_add f g n]; omega
theorem sm_ext {f g : Nat → Nat} : ∀ n, (∀ i, i < n → f i = g i) → sm f n = sm g n
  | 0, _ => rfl
  | n + 1, h => by simp only [sm, sm_ext n fun i hi => h i (by omega), h n (by omega)]
theorem sm_ind (a c : Nat) : ∀ n, sm (fun i => if i = a then c else 0) n = if a < n then c else 0
  | 0 => by simp [sm]
  | n + 1 => by
    simp only [sm, sm_ind a c n]
    by_cases e : n = a
    · subst e; simp
    · have : (a < n + 1) = (a < n) := by rw [eq_iff_iff]; omega
      simp [e, this]
def gP (p : Nat → Bool) (l : Lk) : Nat := (if p (aI l) then 1 else 0) + if p (bI l) then 1 else 0
def wP (p : Nat → Bool) : List Lk → Nat
  | [] => 0
  | l :: ls => wP p ls + gP p l
theorem sm_ovr (p : Nat → Bool) {l : Lk} (h : domL l = true) : sm (fun i => if p i then (if ovr l i then 1 else 0) else 0) 64 = gP p l := by
  have hab := ab_lt h
  have e : sm (fun i => if p i then (if ovr l i then 1 else 0) else 0) 64 = sm (fun i => (if i = aI l then (if p (aI l) then 1 else 0) else 0) + (if i = bI l then (if p (bI l) then 1 else 0) else 0)) 64 := by
    refine sm_ext 64 fun i _ => ?_
    unfold ovr
    by_cases h1 : aI l = i
    · have h2 : bI l ≠ i := by omega
      subst h1
      simp [Ne.symm h2]
    · by_cases h2 : bI l = i
      · subst h2
        simp [Ne.symm h1]
      · simp [h1, h2, Ne.symm h1, Ne.symm h2]
  rw [e, sm_add, sm_ind, sm_ind]
  simp only [show aI l < 64 from by omega, hab.2, if_true]
  rfl
theorem wP_eq (p : Nat → Bool) : ∀ ls : List Lk, (∀ d ∈ ls, domL d = true) → sm (fun i => if p i then cc ls i else 0) 64 = wP p ls
  | [], _ => by
    have : sm (fun i => if p i then cc ([] : List Lk) i else 0) 64 = sm (fun i => if i = 0 then 0 else 0) 64 := sm_ext 64 fun i _ => by simp [cc]
    rw [this, sm_ind]; simp [wP]
  | l :: ls, h => by
    rw [wP, ← wP_eq p ls (fun d hd => h d (by simp [hd])), ← sm_ovr p (h l (by simp)), ← sm_add]
    refine sm_ext 64 fun i _ => ?_
    rw [cc_cons]
    cases p i <;> simp
/-- How many dominoes cross a line. -/
def crs (down : Bool) (k : Nat) (ls : List Lk) : Nat := ls.countP fun l => !okD down k l
def lineP (down : Bool) (k : Nat) (i : Nat) : Bool := if down then decide (i % 8 < k) else decide (i / 8 < k)
theorem gP_crs {l : Lk} (h : domL l = true) (down : Bool) {k : Nat} (hk : 1 ≤ k) : gP (lineP down k) l % 2 = if !okD down k l then 1 else 0 := by
  obtain ⟨x, y, d⟩ := l
  have h1 := (domB_iff _ _ _).1 h
  obtain ⟨n, rfl⟩ := Int.eq_ofNat_of_zero_le h1.1.1
  obtain ⟨m, rfl⟩ := Int.eq_ofNat_of_zero_le h1.1.2
  have hx : n ≤ 7 := by have := h1.2; cases d <;> simp at this <;> omega
  unfold gP lineP okD aI bI cix
  have e1 : ((m : Int) + 1).toNat = m + 1 := by omega
  have e2 : ((n : Int) + 1).toNat = n + 1 := by omega
  cases d <;> cases down <;> simp at h1 ⊢ <;> (repeat' split) <;> omega
theorem wP_crs (down : Bool) {k : Nat} (hk : 1 ≤ k) : ∀ ls : List Lk, (∀ d ∈ ls, domL d = true) → wP (lineP down k) ls % 2 = crs down k ls % 2
  | [], _ => by simp [wP, crs]
  | l :: ls, h => by
    have h1 := gP_crs (h l (by simp)) down hk
    have h2 := wP_crs down hk ls fun d hd => h d (by simp [hd])
    have h3 : crs down k (l :: ls) = crs down k ls + if !okD down k l then 1 else 0 := List.countP_cons
    rw [wP, h3]
    omega
theorem even_tab : (sizes.all fun s => [false, true].all fun down => (List.range s).all fun k => sm (fun i => if lineP down k i then (if (sqR s).testBit i then 1 else 0) else 0) 64 % 2 == 0) = true := by decide +kernel
theorem crs_even {s : Nat} (hs : s = 2 ∨ s = 4 ∨ s = 6) {ls : List Lk} (h : Til (sqR s) ls) (down : Bool) {k : Nat} (h1 : 1 ≤ k) (h2 : k < s) : crs down k ls % 2 = 0 := by
  rw [← wP_crs down h1 ls h.so.2, ← wP_eq _ ls h.so.2]
  have e : sm (fun i => if lineP down k i then cc ls i else 0) 64 = sm (fun i => if lineP down k i then (if (sqR s).testBit i then 1 else 0) else 0) 64 := sm_ext 64 fun i hi => by rw [h.cv i hi]
  rw [e]
  have := List.all_eq_true.1 (List.all_eq_true.1 (List.all_eq_true.1 even_tab s (mem_sizes hs)) down (by cases down <;> simp)) k (by simpa using h2)
  simpa using this
theorem crs_two {s : Nat} (hs : s = 2 ∨ s = 4 ∨ s = 6) {ls : List Lk} (h : Til (sqR s) ls) (down : Bool) {k : Nat} (h1 : 1 ≤ k) (h2 : k < s) (hf : freeTo down k ls ls.length = false) : 2 ≤ crs down k ls := by
  have g := crs_even hs h down h1 h2
  rw [free_len] at hf
  have : 0 < crs down k ls := by
    unfold crs
    rw [List.countP_pos_iff]
    rw [← Bool.not_eq_true, List.all_eq_true] at hf
    refine Classical.byContradiction fun hn => hf fun l hl => ?_
    cases ho : okD down k l
    · exact absurd ⟨l, hl, by simp [ho]⟩ hn
    · rfl
  omega
theorem crs_cons (down : Bool) (k : Nat) (l : Lk) (ls : List Lk) : crs down k (l :: ls) = crs down k ls + if !okD down k l then 1 else 0 := List.countP_cons
theorem crs_sum : ∀ ls : List Lk, crs true 1 ls + crs true 2 ls + crs true 3 ls + crs true 4 ls + crs true 5 ls + (crs false 1 ls + crs false 2 ls + crs false 3 ls + crs false 4 ls + crs false 5 ls) ≤ ls.length
  | [] => by simp [crs]
  | l :: ls => by
    have ih := crs_sum ls
    obtain ⟨x, y, d⟩ := l
    simp only [crs_cons, List.length_cons]
    have key : (if !okD true 1 (x, y, d) then 1 else 0) + (if !okD true 2 (x, y, d) then 1 else 0) + (if !okD true 3 (x, y, d) then 1 else 0) + (if !okD true 4 (x, y, d) then 1 else 0) + (if !okD true 5 (x, y, d) then 1 else 0) + ((if !okD false 1 (x, y, d) then 1 else 0) + (if !okD false 2 (x, y, d) then 1 else 0) + (if !okD false 3 (x, y, d) then 1 else 0) + (if !okD false 4 (x, y, d) then 1 else 0) + (if !okD false 5 (x, y, d) then 1 else 0)) ≤ 1 := by
      unfold okD
      cases d
      · simp
        (repeat' split) <;> omega
      · simp
        (repeat' split) <;> omega
    omega
theorem til_len {s : Nat} (hs : s = 2 ∨ s = 4 ∨ s = 6) {ls : List Lk} (h : Til (sqR s) ls) : 2 * ls.length = s * s := by
  have h1 := til_of h
  unfold sTileB at h1
  rw [Bool.and_eq_true, decide_eq_true_eq] at h1
  rw [h1.2]
  rcases hs with rfl | rfl | rfl <;> decide +kernel
/-- A fault line. -/
theorem flt_some {s : Nat} (hs : s = 2 ∨ s = 4 ∨ s = 6) {ls : List Lk} (h : Til (sqR s) ls) : 0 < (fltZ s s s true ls).length + (fltZ s s s false ls).length := by
  have e2 : ∀ down, fltZ s s s down ls = fltTo down ls (s - 1) := by
    intro down; unfold fltZ; rw [flt_sq hs, til_of h, if_pos rfl, Int.toNat_natCast]
  rw [e2, e2]
  refine Classical.byContradiction fun hn => ?_
  have hsum := crs_sum ls
  have hlen := til_len hs h
  have two := fun down k h1 h2 => crs_two hs h down (k := k) h1 h2
  have fr : ∀ b : Bool, (if b = true then 1 else 0) = 0 → b = false := by intro b; cases b <;> simp
  obtain ⟨p1, p3, p5⟩ := flt_lens true ls (fun k => if freeTo true k ls ls.length then 1 else 0) fun _ => rfl
  obtain ⟨q1, q3, q5⟩ := flt_lens false ls (fun k => if freeTo false k ls ls.length then 1 else 0) fun _ => rfl
  rcases hs with rfl | rfl | rfl
  · simp only [Nat.reduceSub] at hn
    rw [p1, q1] at hn
    have a1 := two true 1 (by omega) (by omega) (fr _ (by omega))
    have b1 := two false 1 (by omega) (by omega) (fr _ (by omega))
    omega
  · simp only [Nat.reduceSub] at hn
    rw [p3, q3] at hn
    have a1 := two true 1 (by omega) (by omega) (fr _ (by omega))
    have a2 := two true 2 (by omega) (by omega) (fr _ (by omega))
    have a3 := two true 3 (by omega) (by omega) (fr _ (by omega))
    have b1 := two false 1 (by omega) (by omega) (fr _ (by omega))
    have b2 := two false 2 (by omega) (by omega) (fr _ (by omega))
    have b3 := two false 3 (by omega) (by omega) (fr _ (by omega))
    omega
  · simp only [Nat.reduceSub] at hn
    rw [p5, q5] at hn
    have a1 := two true 1 (by omega) (by omega) (fr _ (by omega))
    have a2 := two true 2 (by omega) (by omega) (fr _ (by omega))
    have a3 := two true 3 (by omega) (by omega) (fr _ (by omega))
    have a4 := two true 4 (by omega) (by omega) (fr _ (by omega))
    have a5 := two true 5 (by omega) (by omega) (fr _ (by omega))
    have b1 := two false 1 (by omega) (by omega) (fr _ (by omega))
    have b2 := two false 2 (by omega) (by omega) (fr _ (by omega))
    have b3 := two false 3 (by omega) (by omega) (fr _ (by omega))
    have b4 := two false 4 (by omega) (by omega) (fr _ (by omega))
    have b5 := two false 5 (by omega) (by omega) (fr _ (by omega))
    omega
theorem flips_tab : (sizes.all fun s => chkF 40 (sqR s) []) = true := by decide +kernel
theorem sq_flip {s : Nat} (hs : s = 2 ∨ s = 4 ∨ s = 6) {ls : List Lk} (h : Til (sqR s) ls) : ∃ l, l ∈ ls ∧ prt l ∈ ls := flip_some (List.all_eq_true.1 flips_tab s (mem_sizes hs)) h
end Go.Proofs.Ytehnbalbpfmijaa

namespace Go.Proofs.Ytehnbalbpfmijaa
open Go.RowKit
set_option linter.unusedVariables false

theorem flips_neS {R : Nat} {ls : List Lk} (hk : chkF 40 R [] = true) (h : Til R ls) : 0 < (flipsZ ls).length ∧ (flipsZ ls).length ≤ 64 := by
  refine ⟨?_, flipsTo_len ls 64⟩
  obtain ⟨l, h1, h2⟩ := flip_some hk h
  obtain ⟨p1, p2, p3, p4⟩ := prt_quad (h.so.2 _ h1) (h.so.2 _ h2)
  obtain ⟨x, y, d⟩ := l
  obtain ⟨m, rfl⟩ := Int.eq_ofNat_of_zero_le p1.1
  obtain ⟨k, rfl⟩ := Int.eq_ofNat_of_zero_le p2.1
  have hi : inF (m : Int) (k : Int) = true := by
    unfold inF; rw [Bool.and_eq_true, inB_iff, inB_iff]
    have a := p1.2; have b := p2.2
    dsimp only at a b
    omega
  have hp := kind_of (ls := ls) hi d (by have := p3; dsimp only at this; rw [this]; exact h1) (by have := p4; dsimp only at this; rw [this]; exact h2)
  have a := p1.2; have b := p2.2
  dsimp only at a b
  refine flipsTo_has ls (k * 8 + m) ?_ 64 (by omega)
  rw [show (k * 8 + m) % 8 = m by omega, show (k * 8 + m) / 8 = k by omega]
  exact hp
theorem flips_atS {R : Nat} {ls : List Lk} (h : Til R ls) {c : Int × Int} (hc : c ∈ flipsZ ls) : (0 ≤ c.1 ∧ c.1 ≤ 6) ∧ (0 ≤ c.2 ∧ c.2 ≤ 6) ∧ ∃ d, kindZ ls c.1 c.2 = (if d then 2 else 1) ∧ Til R (sortI (flipL ls c.1 c.2 d) (flipL ls c.1 c.2 d).length) := by
  obtain ⟨⟨h1, h2⟩, d, h3, h4, h5⟩ := kind_pos (flipsTo_mem ls 64 c hc)
  exact ⟨h1, h2, d, h3, flip_til h h1 h2 h4 h5⟩
theorem til_fewS {R : Nat} {ls : List Lk} (h : Til R ls) : ls.length ≤ 32 := by
  have h1 := til_of h
  unfold sTileB at h1
  rw [Bool.and_eq_true, decide_eq_true_eq] at h1
  have := cntB_le R 64
  omega

theorem fst_sq_tab : (sizes.all fun s => !(rectZ s s).isEmpty && regOkB (rectZ s s) && (decide (nCell (setZ (rectZ s s)) 64 ≤ 37) && wayB (setZ (rectZ s s)) 64 0 0) && chkR (s * s / 2) (rectZ s s) && sTileB (sqR s) (fstL (s * s / 2) (rectZ s s)) && decide (s * s / 2 ≤ 32)) = true := by decide +kernel
theorem fst_sq {s : Nat} (hs : s = 2 ∨ s = 4 ∨ s = 6) : rectZ s s ≠ [] ∧ regOkB (rectZ s s) = true ∧ profZ (setZ (rectZ s s)) ≠ 0 ∧ chkR (s * s / 2) (rectZ s s) = true ∧ Til (sqR s) (fstL (s * s / 2) (rectZ s s)) ∧ s * s / 2 ≤ 32 := by
  have h := List.all_eq_true.1 fst_sq_tab s (mem_sizes hs)
  rw [Bool.and_eq_true, Bool.and_eq_true, Bool.and_eq_true, Bool.and_eq_true, Bool.and_eq_true, decide_eq_true_eq] at h
  obtain ⟨⟨⟨⟨⟨a, b⟩, c⟩, d⟩, e⟩, f⟩ := h
  exact ⟨by intro h0; rw [h0] at a; simp at a, b, way_some c, d, til_to (sq_lt hs) e, f⟩

def SqDraw (w : World) (q : Nat) (v : Value) (n : Nat) (e : Ending) (w' : World) : Prop :=
  ∃ (s : Nat) (ls : List Lk) (u : Value), (s = 2 ∨ s = 4 ∨ s = 6) ∧ Til (sqR s) ls ∧ e = .returned (.tuple #[.int .i64 (s : Int), u]) ∧ OwnF elDomino w' w.heap.size u ls ∧ Cur w' q v n ∧ w.grownBy w' (some q)

set_option maxRecDepth 100000 in
set_option maxHeartbeats 2000000 in
theorem l19Tiling_any (q n : Nat) (v : Value) (w : World) (hc : Cur w q v n) :
    Calls Try.prog 63 #[.pointer (some ⟨q, 0, none⟩)] w (SqDraw w q v n) := by
  have HQ := Lib.hid hc.lt
  go_enter Try.func63, Try.ntmps63
  go_wp2_with fail
  refine (below_any q n v 3 w hc (by omega) (by omega)).mono ?_
  rintro e w1 ⟨r1, ⟨r10, r11⟩, rfl, hc1, hg1⟩
  have HC1 := Lib.hid hc1
  have HG1 := Lib.hid hg1
  obtain ⟨s, hs⟩ : ∃ s : Nat, 2 * (1 + r1) = (s : Int) := ⟨(2 * (1 + r1)).toNat, by omega⟩
  have hcond : s = 2 ∨ s = 4 ∨ s = 6 := by omega
  have hs1 : IntKind.i64.wrap (1 + r1) = 1 + r1 := IntWalk.i64_in _ (by omega)
  have hs2 : IntKind.i64.wrap (2 * (1 + r1)) = (s : Int) := by rw [IntWalk.i64_in _ (by omega)]; exact hs
  obtain ⟨hzne, hzok, hzp, hzc, htil, hnn⟩ := fst_sq hcond
  have hck : chkF 40 (sqR s) [] = true := List.all_eq_true.1 flips_tab s (mem_sizes hcond)
  have HRC := Lib.hid (specRectangle_yes s s (by omega) (by omega))
  clear hc hc1 hg1
  go_wp2_with fail
  try rw [hs]
  refine (HRC.out _).mono ?_
  rintro e w2 ⟨u2, rfl, hr2, hb2⟩
  have HB2 := Lib.hid hb2
  have HC2 := Lib.hid (HC1.out.below hb2)
  have HG2 := Lib.hid (grownBy_below HG1.out hb2)
  have HFST := Lib.hid (FirstTiling_yes u2 (rectZ s s) _ w2 hr2 (Nat.le_refl _) hzne (s * s / 2) hnn hzok hzp hzc)
  have HTIL0 : Hid (Til (sqR s) (fstL (s * s / 2) (rectZ s s))) := htil
  have HCK : Hid (chkF 40 (sqR s) [] = true) := hck
  have HCO : Hid ((s = 2 ∨ s = 4 ∨ s = 6)) := hcond
  obtain ⟨A2, c2, rfl, _, _, _⟩ := hr2
  clear hb2 hzne hzok hzp hzc htil hck hcond
  generalize fstL (s * s / 2) (rectZ s s) = l0 at *
  clear hnn
  go_wp2_with fail
  refine HFST.out.mono ?_
  rintro e w3 ⟨u3, rfl, ho3, hb3⟩
  have HC3 := Lib.hid (HC2.out.below hb3)
  have HG3 := Lib.hid (grownBy_below HG2.out hb3)
  have HO3 := Lib.hid (ho3.mono HG2.out.size)
  obtain ⟨A3, c3, rfl, _, _, _⟩ := ho3.rd okDomino
  clear ho3 hb3 HFST
  go_wp2_with fail
  refine (below_any q n v 12 w3 HC3.out (by omega) (by omega)).mono ?_
  rintro e w4 ⟨r4, ⟨r40, r41⟩, rfl, hc4, hg4⟩
  have HC4 := Lib.hid hc4
  have HG4 := Lib.hid (HG3.out.trans hg4)
  have HO4 := Lib.hid (HO3.out.kept hg4 fun k hk e => by have h1 := (HO3.out.lt k hk).1; have h2 := HQ.out; simp only [Option.some.injEq] at e; omega)
  clear hc4 hg4
  obtain ⟨k4, rfl⟩ := Int.eq_ofNat_of_zero_le r40
  go_wp2_with fail
  go_loopw [5, 7] (fun l i wr => ∃ (k : Nat) (ls : List Lk) (u : Value), k ≤ 20 ∧ i = .int .i64 (k : Int) ∧ u = l ∧ Hid (Til (sqR s) ls) ∧ Hid (OwnF elDomino wr w.heap.size u ls) ∧ Hid (Cur wr q v n) ∧ Hid (w.grownBy wr (some q))) (fun _ i _ => (intOf i).toNat)
  case atStart => exact ⟨k4, _, _, by omega, rfl, rfl, HTIL0, HO4, HC4, HG4⟩
  case round =>
    obtain ⟨k, ls, u, hk, rfl, rfl, HT, HO, HC, HG⟩ := hrel
    obtain ⟨Au, cu, rfl, q1, q2, _⟩ := HO.out.rd okDomino
    unfold maxLen at q2
    by_cases hk0 : 0 < k
    · have ht : decide (0 < k) = true := by rw [decide_eq_true_eq]; exact hk0
      have hti : decide ((0 : Int) < (k : Int)) = true := by rw [decide_eq_true_eq]; omega
      have HFO := Lib.hid (FlipsOf_any _ ls _ wr (HO.out.rd okDomino) (Nat.le_refl _))
      obtain ⟨hf0, hf64⟩ := flips_neS HCK.out HT.out
      have HFA := Lib.hid (fun c hc => flips_atS HT.out (c := c) hc)
      have hlen := til_fewS HT.out
      generalize flipsZ ls = fs at *
      go_wp2_with fail
      refine HFO.out.mono ?_
      rintro e w5 ⟨u5, rfl, ho5, hb5⟩
      have HC5 := Lib.hid (HC.out.below hb5)
      have HG5 := Lib.hid (grownBy_below HG.out hb5)
      have HO5 := Lib.hid (HO.out.below hb5)
      have HF5 := Lib.hid ho5
      obtain ⟨A5, c5, hv5, q3, q4, _⟩ := ho5.rd okCell
      subst hv5
      unfold maxLen at q4
      have HSW : Hid (w.heap.size ≤ wr.heap.size) := HG.out.size
      clear ho5 hb5 HFO
      go_wp2_with fail
      refine (below_any q n v (fs.length : Int) w5 HC5.out (by omega) (by omega)).mono ?_
      rintro e w6 ⟨r6, ⟨r60, r61⟩, rfl, hc6, hg6⟩
      have HC6 := Lib.hid hc6
      have HG6 := Lib.hid (HG5.out.trans hg6)
      have HO6 := Lib.hid (HO5.out.kept hg6 fun k hk e => by have h1 := (HO5.out.lt k hk).1; have h2 := HQ.out; simp only [Option.some.injEq] at e; omega)
      have HF6 := Lib.hid (HF5.out.kept hg6 fun k hk e => by have h1 := (HF5.out.lt k hk).1; have h2 := HQ.out; have h3 := HSW.out; simp only [Option.some.injEq] at e; omega)
      clear hc6 hg6
      obtain ⟨j, rfl⟩ := Int.eq_ofNat_of_zero_le r60
      have hj : j < fs.length := by omega
      obtain ⟨A9, c9, he, _, _, G9⟩ := RdD.of (E := elCell) rfl (fun _ => rfl) (HF6.out.rd okCell)
      simp only [Value.slice.injEq, true_and] at he
      obtain ⟨rfl, rfl⟩ := he
      obtain ⟨ad, rfl, hbl, hcx, hcy⟩ := G9.out j hj
      have hmem : (dx fs j, dy fs j) ∈ fs := by
        have : (dx fs j, dy fs j) = fs[j] := by simp [dx, dy, hj]
        rw [this]; exact List.getElem_mem hj
      obtain ⟨hx6, hy6, d, hkd, htn⟩ := HFA.out _ hmem
      dsimp only at hx6 hy6 hkd htn
      generalize dx fs j = x at *
      generalize dy fs j = y at *
      have HTN := Lib.hid htn
      have HFL := Lib.hid (FlipAt_yes _ ls x y d _ w6 (HO6.out.rd okDomino) (Nat.le_refl _) (by omega) hx6 hy6 hkd)
      have hj0 : (0 : Int) ≤ (j : Int) := by omega
      have hj1 : (j : Int) < (fs.length : Int) := by omega
      have HSW6 : Hid (w.heap.size ≤ w6.heap.size) := HG6.out.size
      clear htn hkd hmem G9 hbl
      generalize sortI (flipL ls x y d) (flipL ls x y d).length = l7 at *
      go_wp2_with fail
      refine HFL.out.mono ?_
      rintro e w7 ⟨u7, rfl, ho7, hb7⟩
      have HC7 := Lib.hid (HC6.out.below hb7)
      have HG7 := Lib.hid (grownBy_below HG6.out hb7)
      have HO7 := Lib.hid (ho7.mono HSW6.out)
      obtain ⟨A7, c7, rfl, _, _, _⟩ := ho7.rd okDomino
      have hw1 : IntKind.i64.wrap ((k : Int) - 1) = ((k - 1 : Nat) : Int) := by rw [IntWalk.i64_in _ (by omega)]; omega
      have hw2 : (k : Int) - 1 = ((k - 1 : Nat) : Int) := by omega
      clear ho7 hb7 HFL
      go_wp2_with fail
      go_roundw
      case rel => exact ⟨k - 1, _, _, by omega, (by first | rfl | (simp [hw2])), rfl, HTN, HO7, HC7, HG7⟩
      case measure => simp [intOf]; omega
    · obtain rfl : k = 0 := by omega
      go_wp2_with fail
      refine bodyPost_ret (v := .tuple #[.int .i64 (s : Int), .slice Au ls.length cu]) (by simp [results, Try.results63, go_sem]) rfl ⟨s, ls, _, HCO.out, HT.out, rfl, HO.out, HC.out, HG.out⟩
end Go.Proofs.Ytehnbalbpfmijaa
