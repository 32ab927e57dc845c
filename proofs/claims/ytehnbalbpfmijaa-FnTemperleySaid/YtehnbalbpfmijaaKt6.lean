/- What the claim's walk rests on: parts ProfS, TreeFloor. -/
import Derived.Test.YtehnbalbpfmijaaKt1
import Derived.Test.YtehnbalbpfmijaaKt5
import Derived.StillTailTactics
import Derived.Deep.RegionHeld3
import Derived.Deep.RegionLaw
import Derived.BigRegion
namespace Go.Proofs.Ytehnbalbpfmijaa
open Go.RowKit
set_option linter.unusedVariables false

structure QB (w wr : World) (v : Value) (rows : List Int) (p1 gn : Nat) (zs : List Int) : Prop where
  er : wr.heap[p1]? = some (.cells #[v] 39 (0, 0))
  rn : Row256 wr gn zs
  big : Below w.heap.size w wr
  rd : ∃ B, B ≤ w.heap.size ∧ RdI wr B v rows
  l1 : w.heap.size ≤ p1
  ln : p1 < gn
structure QF (w wr : World) (v : Value) (rows : List Int) (p1 gn p7 gx x y : Nat) (zs nx : List Int) : Prop where
  er : wr.heap[p1]? = some (.cells #[v] 39 (0, 0))
  rn : Row256 wr gn zs
  ec : wr.heap[p7]? = some (.cells #[.int .i64 (x : Int), .int .i64 (y : Int)] 44 (0, 0))
  rx : Row256 wr gx nx
  big : Below w.heap.size w wr
  rd : ∃ B, B ≤ w.heap.size ∧ RdI wr B v rows
  l1 : w.heap.size ≤ p1
  n1 : gx ≠ p1
  nn : gx ≠ gn
  nc : gx ≠ p7
  lx : p1 < gx
section
variable {w wr w1 : World} {v : Value} {rows : List Int} {p1 gn p7 gx x y : Nat} {zs nx nx' : List Int}
theorem QB.below (h : QB w wr v rows p1 gn zs) (hb : Below wr.heap.size wr w1) : QB w w1 v rows p1 gn zs := by
  obtain ⟨B, hB, hr⟩ := h.rd
  exact ⟨blk_below h.er hb, h.rn.keep (hb.block _ (lt_of_block h.rn.1)), h.big.trans (hb.mono h.big.size), ⟨B, hB, hr.below (hb.mono (Nat.le_trans hB h.big.size))⟩, h.l1, h.ln⟩
theorem QB.set (h : QB w wr v rows p1 gn zs) (k : Nat) (z : Int) : QB w (wr.setCell ⟨gn, k, none⟩ (.int .i64 z)) v rows p1 gn (zs.set k z) := by
  obtain ⟨B, hB, hr⟩ := h.rd
  have hl := h.ln
  have hl1 := h.l1
  have hb : Below w.heap.size wr (wr.setCell ⟨gn, k, none⟩ (.int .i64 z)) := (Below.refl _ _).setCell (by show w.heap.size ≤ gn; omega) _
  exact ⟨(Below.heap_setCell _ _ _ _ (by show p1 ≠ gn; omega)).trans h.er, h.rn.set k z, h.big.trans hb, ⟨B, hB, hr.below (hb.mono hB)⟩, h.l1, h.ln⟩
theorem QF.below (h : QF w wr v rows p1 gn p7 gx x y zs nx) (hb : Below wr.heap.size wr w1) : QF w w1 v rows p1 gn p7 gx x y zs nx := by
  obtain ⟨B, hB, hr⟩ := h.rd
  exact ⟨blk_below h.er hb, h.rn.keep (hb.block _ (lt_of_block h.rn.1)), blk_below h.ec hb, h.rx.keep (hb.block _ (lt_of_block h.rx.1)), h.big.trans (hb.mono h.big.size), ⟨B, hB, hr.below (hb.mono (Nat.le_trans hB h.big.size))⟩, h.l1, h.n1, h.nn, h.nc, h.lx⟩
theorem QF.set (h : QF w wr v rows p1 gn p7 gx x y zs nx) (k : Nat) (z : Int) : QF w (wr.setCell ⟨gx, k, none⟩ (.int .i64 z)) v rows p1 gn p7 gx x y zs (nx.set k z) := by
  obtain ⟨B, hB, hr⟩ := h.rd
  have hk : ∀ j, gx ≠ j → (wr.setCell ⟨gx, k, none⟩ (.int .i64 z)).heap[j]? = wr.heap[j]? := fun j hj => Below.heap_setCell _ _ _ _ (Ne.symm hj)
  have hl := h.lx
  have hl1 := h.l1
  have hb : Below w.heap.size wr (wr.setCell ⟨gx, k, none⟩ (.int .i64 z)) := (Below.refl _ _).setCell (by show w.heap.size ≤ gx; omega) _
  exact ⟨(hk _ h.n1).trans h.er, h.rn.keep (hk _ h.nn), (hk _ h.nc).trans h.ec, h.rx.set k z, h.big.trans hb, ⟨B, hB, hr.below (hb.mono hB)⟩, h.l1, h.n1, h.nn, h.nc, h.lx⟩
theorem QF.cells (h : QF w wr v rows p1 gn p7 gx x y zs nx) : wr.cell? ⟨p1, 0, none⟩ = some v ∧ wr.cell? ⟨p7, 0, none⟩ = some (.int .i64 (x : Int)) ∧ wr.cell? ⟨p7, 1, none⟩ = some (.int .i64 (y : Int)) :=
  ⟨by rw [blk_cell h.er]; rfl, by rw [blk_cell h.ec]; rfl, by rw [blk_cell h.ec]; rfl⟩
end
theorem shl_q (x : Nat) (hx : x ≤ 7) : wrap64 ((2 : Int) ^ x) = ((2 ^ x : Nat) : Int) := by
  have h : (2 ^ x : Nat) ≤ 2 ^ 7 := Nat.pow_le_pow_right (by omega) hx
  have e : ((2 : Int) ^ x) = ((2 ^ x : Nat) : Int) := by simp
  rw [e]
  generalize (2 ^ x : Nat) = p at *
  simp at h
  unfold wrap64
  omega

set_option maxRecDepth 100000 in
set_option maxHeartbeats 8000000 in
theorem l07Count_yes (v : Value) (rows : List Int) (B : Nat) (w : World) (hr : RdI w B v rows) (hB : B ≤ w.heap.size) (hok : regOkB rows = true) :
    Calls Try.prog 89 #[.agg #[v]] w fun e w' => e = .returned (.int .i64 (profZ (setZ rows))) ∧ Below w.heap.size w w' := by
  obtain ⟨T, HT⟩ : ∃ T, Hid (setZ rows = T) := ⟨_, rfl⟩
  rw [HT.out]
  obtain ⟨pf, HPF⟩ : ∃ pf : Nat → List Int, Hid (pf = profTo T) := ⟨_, rfl⟩
  obtain ⟨z0, HZ0⟩ : ∃ z : List Int, Hid (z = zeros) := ⟨_, rfl⟩
  have HPS : Hid (∀ i, pf (i + 1) = stepTo (hasC T (i % 8) (i / 8)) (hasC T (i % 8) (i / 8 + 1)) (hasC T (i % 8 + 1) (i / 8)) (i % 8) (pf i) 256) := by rw [HPF.out]; exact fun i => rfl
  have HPW : Hid (∀ i, WOk (pf i)) := by rw [HPF.out]; exact WOk.prof T
  have HP00 : Hid (pf 0 = z0.set 0 1) := by rw [HPF.out, HZ0.out]; rfl
  have HFZ : Hid (∀ r, pf 64 = r → profZ T = el r 0) := by rw [HPF.out]; exact fun r h => by rw [← h]; rfl
  have HST0 : Hid (∀ (h b r : Bool) (x : Nat) (zs : List Int), stepTo h b r x zs 0 = z0) := by rw [HZ0.out]; exact fun _ _ _ _ _ => rfl
  have HZL : Hid (z0.length = 256) := by rw [HZ0.out]; exact zeros_len
  obtain ⟨res, HRES⟩ : ∃ r, Hid (profZ T = r) := ⟨_, rfl⟩
  rw [HRES.out] at HFZ ⊢
  have hmk : ∀ w : World, (Instr.makeSlice 31 (.int .i64 256) (.int .i64 256)).run Try.prog w = .ok (.slice (some ⟨w.heap.size, 0, none⟩) 256 256) (w.alloc (.cells (madeCells #[.int .i64 0] 256) 3)) := fun _ => by kernel_rfl
  rw [made256, ← HZ0.out] at hmk
  clear HPF HZ0 HRES
  have HR := Lib.hid hr
  obtain ⟨A, c, rfl, _, g2, _⟩ := hr
  unfold maxLen at g2
  obtain ⟨v, HV⟩ : ∃ v, Hid (v = Value.slice A rows.length c) := ⟨_, rfl⟩
  rw [← HV.out] at HR ⊢
  obtain ⟨W, hW, k0, k1, hb0⟩ := two_alloc w (.cells #[v] 39) (.cells (rwC z0) 3)
  have HQ0 : Hid (QB w W v rows w.heap.size (w.heap.size + 1) z0) := ⟨k0, ⟨k1, HZL.out⟩, hb0, ⟨B, hB, HR.out.below (hb0.mono hB)⟩, Nat.le_refl _, by omega⟩
  have cW := HQ0.out.rn.cell (k := 0) (by omega)
  have fW := HQ0.out.rn.free 0
  have HSW : Hid ((rwC z0).setIfInBounds 0 (.int .i64 1) = rwC (pf 0)) := by unfold Hid; rw [HP00.out]; exact rwC_set _ _ _
  obtain ⟨W1, hW1, j0, j1, jb⟩ := two_alloc w (.cells #[v] 39) (.cells (rwC (pf 0)) 3)
  have HQ1 : Hid (QB w W1 v rows w.heap.size (w.heap.size + 1) (pf 0)) := ⟨j0, ⟨j1, by rw [HP00.out, List.length_set]; exact HZL.out⟩, jb, ⟨B, hB, HR.out.below (jb.mono hB)⟩, Nat.le_refl _, by omega⟩
  have HWW := Lib.hid hW1
  rw [hW] at cW fW
  clear hW k0 k1 hb0 HR HV hW1 j0 j1 jb
  go_enter Try.func89, Try.ntmps89
  go_wp2_with fail
  rw [HSW.out, ← HWW.out]
  clear cW fW HQ0
  go_loopw [4, 5] (fun u s wr => ∃ (i gn : Nat), i ≤ 64 ∧ s = .int .i64 i ∧ u = .slice (some ⟨gn, 0, none⟩) 256 256 ∧ Hid (QB w wr v rows w.heap.size gn (pf i))) (fun _ s _ => 64 - (intOf s).toNat)
  case atStart => exact ⟨0, _, Nat.zero_le _, rfl, rfl, HQ1⟩
  case round =>
    obtain ⟨i, gn, hi, rfl, rfl, HQ⟩ := hrel
    by_cases hli : i < 64
    · have hti : decide ((i : Int) < 64) = true := by simp only [decide_eq_true_eq]; omega
      have HS := Lib.hid (HPS.out i)
      have HWO := Lib.hid (HPW.out i)
      have hx7 : i % 8 ≤ 7 := by omega
      have hy7 : i / 8 ≤ 7 := by omega
      have HXI : Hid ((i : Int) % 8 = ((i % 8 : Nat) : Int)) := by unfold Hid; omega
      go_wp2_with fail
      refine (CellAt_yes i (by omega) _).mono ?_
      rintro e w1 ⟨rfl, hb1⟩
      rw [HXI.out]
      have HQ1 := Lib.hid (HQ.out.below hb1)
      obtain ⟨zs, HZS⟩ : ∃ zs, Hid (pf i = zs) := ⟨_, rfl⟩
      obtain ⟨zs2, HZS2⟩ : ∃ zs, Hid (pf (i + 1) = zs) := ⟨_, rfl⟩
      rw [HZS.out] at HQ1 HS HWO
      rw [HZS2.out] at HS
      clear HXI
      generalize i % 8 = x at *
      generalize i / 8 = y at *
      clear hb1 HQ
      go_wp2_with fail
      obtain ⟨W2, hW2, q0, q1, hb2⟩ := two_alloc w1 (.cells #[.int .i64 (x : Int), .int .i64 (y : Int)] 44) (.cells (rwC z0) 3)
      rw [← hW2]
      have HF0 : Hid (QF w W2 v rows w.heap.size gn w1.heap.size (w1.heap.size + 1) x y zs z0) := by
        have h := HQ1.out.below hb2
        have l1 := lt_of_block HQ1.out.er
        have l2 := lt_of_block HQ1.out.rn.1
        have l3 := HQ1.out.big.size
        exact ⟨h.er, h.rn, q0, ⟨q1, HZL.out⟩, h.big, h.rd, Nat.le_refl _, by omega, by omega, by omega, by omega⟩
      clear hW2 q0 q1 hb2 HQ1
      generalize w1.heap.size = n1 at *
      obtain ⟨h, HH⟩ : ∃ h, Hid (hasC T x y = h) := ⟨_, rfl⟩
      obtain ⟨b, HB⟩ : ∃ h, Hid (hasC T x (y + 1) = h) := ⟨_, rfl⟩
      obtain ⟨r, HR⟩ : ∃ h, Hid (hasC T (x + 1) y = h) := ⟨_, rfl⟩
      rw [HH.out, HB.out, HR.out] at HS
      obtain ⟨st, HST⟩ : ∃ st : Nat → List Int, Hid (st = stepTo h b r x zs) := ⟨_, rfl⟩
      have HSIN : Hid (∀ k, st (k + 1) = inZ h b r x (el zs k) k (st k)) := by rw [HST.out]; exact fun k => rfl
      have HF3 : Hid (QF w W2 v rows w.heap.size gn n1 (n1 + 1) x y zs (st 0)) := by rw [HST.out, HST0.out]; exact HF0.out
      rw [← HST.out] at HS
      clear HST HF0
      have HH1 : Hid (hasB (setZ rows) x y = h) := by unfold Hid; rw [HT.out, ← HH.out]; simp [hasC, hx7, hy7]
      go_loopw [10] (fun s wr => ∃ k : Nat, k ≤ 256 ∧ s = .int .i64 k ∧ Hid (QF w wr v rows w.heap.size gn n1 (n1 + 1) x y zs (st k))) (fun s _ => 256 - (intOf s).toNat)
      case atStart => exact ⟨0, Nat.zero_le _, rfl, HF3⟩
      case round =>
        obtain ⟨k, hk, rfl, HF4⟩ := hrel
        obtain ⟨f1, f2, f3⟩ := HF4.out.cells
        by_cases hlt : k < 256
        · have ht : decide ((k : Int) < 256) = true := by simp only [decide_eq_true_eq]; omega
          have hk0 : (0 : Int) ≤ (k : Int) := by omega
          have hk1 : (k : Int) < 256 := by omega
          have cr := HF4.out.rn.cell hlt
          have HN := Lib.hid (HWO.out k)
          have HIN := Lib.hid (HSIN.out k)
          obtain ⟨b1, b2, b3, b4, b5⟩ := bits_at k x hlt hx7
          have hsh := bit_shr k x (by omega) hx7
          have HB3 := Lib.hid b3; have HB5 := Lib.hid b5
          clear b1 b2 b3 b4 b5
          generalize st k = nx at *
          generalize el zs k = n at *
          by_cases hn0 : n = 0
          · have t0 : (n == 0) = true := by simp [hn0]
            have HF5 : Hid (QF w wr v rows w.heap.size gn n1 (n1 + 1) x y zs (st (k + 1))) := by rw [HIN.out, inZ, if_pos hn0]; exact HF4.out
            clear hn0 hsh
            go_wp2_with fail
            go_roundw
            case rel => exact ⟨k + 1, by omega, by go_num, HF5⟩
            case measure => simp [intOf]; omega
          · have t0 : (n == 0) = false := by rw [beq_eq_false_iff_ne]; exact hn0
            cases hb : k.testBit x
            · rw [hb] at hsh
              cases h
              · have HX : Hid (st (k + 1) = putZ nx k n) := by unfold Hid; rw [HIN.out, inZ, if_neg hn0]; simp [hb]
                clear hn0
                go_wp2_with fail
                obtain ⟨B5, hB5, hr5⟩ := HF4.out.rd
                refine (l03Has_yes v rows B5 _ hr5 (Nat.le_trans hB5 HF4.out.big.size) hok x y (by omega) (by omega)).mono ?_
                rintro e w5 ⟨rfl, hb5⟩
                rw [HH1.out]
                clear hr5
                have HF5 := Lib.hid (HF4.out.below hb5)
                clear f1 f2 f3
                obtain ⟨f1, f2, f3⟩ := HF5.out.cells
                have cx := HF5.out.rx.cell (k := k) hlt
                have fx := HF5.out.rx.free (k)
                have HE : Hid (QF w (w5.setCell ⟨n1 + 1, k, none⟩ (.int .i64 (wrap64 (el nx (k) + n)))) v rows w.heap.size gn n1 (n1 + 1) x y zs (st (k + 1))) := by rw [HX.out]; exact HF5.out.set (k) _
                generalize el nx (k) = q at *
                go_wp2_with fail
                go_roundw
                case rel => exact ⟨k + 1, by omega, by go_num, HE⟩
                case measure => simp [intOf]; omega
              · have HX0 : Hid (st (k + 1) = if r && !k.testBit (x + 1) then putZ (if b then putZ nx (k ||| 2 ^ x) n else nx) (k ||| 2 ^ (x + 1)) n else if b then putZ nx (k ||| 2 ^ x) n else nx) := by unfold Hid; rw [HIN.out, inZ, if_neg hn0]; simp only [hb, if_true]; rfl
                clear hn0
                go_wp2_with fail
                obtain ⟨B5, hB5, hr5⟩ := HF4.out.rd
                refine (l03Has_yes v rows B5 _ hr5 (Nat.le_trans hB5 HF4.out.big.size) hok x y (by omega) (by omega)).mono ?_
                rintro e w5 ⟨rfl, hb5⟩
                rw [HH1.out]
                clear hr5
                have HF5 := Lib.hid (HF4.out.below hb5)
                clear f1 f2 f3
                obtain ⟨f1, f2, f3⟩ := HF5.out.cells
                go_wp2_with fail
                obtain ⟨w6, hw6, hk6, hb6⟩ := one_alloc w5 (.cells #[.int .i64 (x : Int), .int .i64 ((y : Int) + 1)] 44)
                rw [← hw6]
                have HL6 := Lib.hid (lt_of_block hk6)
                have HK6 := Lib.hid hk6
                clear hw6 hk6
                have HF6 := Lib.hid (HF5.out.below hb6)
                clear f1 f2 f3
                obtain ⟨f1, f2, f3⟩ := HF6.out.cells
                have g6a : w6.cell? ⟨w5.heap.size, 0, none⟩ = some (.int .i64 (x : Int)) := by rw [blk_cell HK6.out]; rfl
                have g6b : w6.cell? ⟨w5.heap.size, 1, none⟩ = some (.int .i64 ((y : Int) + 1)) := by rw [blk_cell HK6.out]; rfl
                clear hb6
                have HY1 : Hid ((y : Int) + 1 = ((y + 1 : Nat) : Int)) := by unfold Hid; omega
                go_wp2_with fail
                by_cases hy8 : y + 1 ≤ 7
                · have hs : spotB 7 x ((y : Int) + 1) = true := (spotB_iff _ _ _).2 ⟨by omega, by omega⟩
                  refine (specCellOk_any (x : Int) ((y : Int) + 1) _).mono ?_
                  rintro e w7 ⟨rfl, hb7⟩
                  rw [hs]
                  clear g6a g6b
                  have HK7 := Lib.hid (blk_below HK6.out hb7)
                  have g7a : w7.cell? ⟨w5.heap.size, 0, none⟩ = some (.int .i64 (x : Int)) := by rw [blk_cell HK7.out]; rfl
                  have g7b : w7.cell? ⟨w5.heap.size, 1, none⟩ = some (.int .i64 ((y : Int) + 1)) := by rw [blk_cell HK7.out]; rfl
                  have HF7 := Lib.hid (HF6.out.below hb7)
                  clear f1 f2 f3
                  obtain ⟨f1, f2, f3⟩ := HF7.out.cells
                  have HB1 : Hid (hasB (setZ rows) x (y + 1) = b) := by unfold Hid; rw [HT.out, ← HB.out]; simp [hasC, hx7, hy8]
                  go_wp2_with fail
                  rw [HY1.out]
                  obtain ⟨B8, hB8, hr8⟩ := HF7.out.rd
                  refine (l03Has_yes v rows B8 _ hr8 (Nat.le_trans hB8 HF7.out.big.size) hok x (y + 1) (by omega) (by omega)).mono ?_
                  rintro e w8 ⟨rfl, hb8⟩
                  rw [HB1.out]
                  clear hr8
                  have HF8 := Lib.hid (HF7.out.below hb8)
                  clear f1 f2 f3
                  obtain ⟨f1, f2, f3⟩ := HF8.out.cells
                  clear g7a g7b
                  cases b
                  · skip
                    have HX0 : Hid (st (k + 1) = if r && !k.testBit (x + 1) then putZ nx (k ||| 2 ^ (x + 1)) n else nx) := HX0.out
                    go_wp2_with fail
                    obtain ⟨w9, hw9, hk9, hb9⟩ := one_alloc w8 (.cells #[.int .i64 ((x : Int) + 1), .int .i64 (y : Int)] 44)
                    rw [← hw9]
                    have HL9 := Lib.hid (lt_of_block hk9)
                    have HK9 := Lib.hid hk9
                    clear hw9 hk9
                    have HF9 := Lib.hid (HF8.out.below hb9)
                    clear f1 f2 f3
                    obtain ⟨f1, f2, f3⟩ := HF9.out.cells
                    have g9a : w9.cell? ⟨w8.heap.size, 0, none⟩ = some (.int .i64 ((x : Int) + 1)) := by rw [blk_cell HK9.out]; rfl
                    have g9b : w9.cell? ⟨w8.heap.size, 1, none⟩ = some (.int .i64 (y : Int)) := by rw [blk_cell HK9.out]; rfl
                    clear hb9
                    have HX1 : Hid ((x : Int) + 1 = ((x + 1 : Nat) : Int)) := by unfold Hid; omega
                    go_wp2_with fail
                    by_cases hx8 : x + 1 ≤ 7
                    · have hs2 : spotB 7 ((x : Int) + 1) y = true := (spotB_iff _ _ _).2 ⟨by omega, by omega⟩
                      refine (specCellOk_any ((x : Int) + 1) (y : Int) _).mono ?_
                      rintro e w10 ⟨rfl, hb10⟩
                      rw [hs2]
                      clear g9a g9b
                      have HK10 := Lib.hid (blk_below HK9.out hb10)
                      have g10a : w10.cell? ⟨w8.heap.size, 0, none⟩ = some (.int .i64 ((x : Int) + 1)) := by rw [blk_cell HK10.out]; rfl
                      have g10b : w10.cell? ⟨w8.heap.size, 1, none⟩ = some (.int .i64 (y : Int)) := by rw [blk_cell HK10.out]; rfl
                      have HF10 := Lib.hid (HF9.out.below hb10)
                      clear f1 f2 f3
                      obtain ⟨f1, f2, f3⟩ := HF10.out.cells
                      have HR1 : Hid (hasB (setZ rows) (x + 1) y = r) := by unfold Hid; rw [HT.out, ← HR.out]; simp [hasC, hx8, hy7]
                      go_wp2_with fail
                      rw [HX1.out]
                      obtain ⟨B11, hB11, hr11⟩ := HF10.out.rd
                      refine (l03Has_yes v rows B11 _ hr11 (Nat.le_trans hB11 HF10.out.big.size) hok (x + 1) y (by omega) (by omega)).mono ?_
                      rintro e w11 ⟨rfl, hb11⟩
                      rw [HR1.out]
                      clear hr11
                      have HF11 := Lib.hid (HF10.out.below hb11)
                      clear f1 f2 f3
                      obtain ⟨f1, f2, f3⟩ := HF11.out.cells
                      clear g10a g10b
                      cases r
                      · have HE : Hid (QF w w11 v rows w.heap.size gn n1 (n1 + 1) x y zs (st (k + 1))) := by rw [HX0.out]; exact HF11.out
                        go_wp2_with fail
                        go_roundw
                        case rel => exact ⟨k + 1, by omega, by go_num, HE⟩
                        case measure => simp [intOf]; omega
                      · obtain ⟨_, _, z3, z4, z5⟩ := bits_at k (x + 1) hlt hx8
                        cases hb2 : k.testBit (x + 1)
                        · rw [hb2] at z4 HX0
                          have z4' : (bits .and .i64 ((k : Int) / 2 ^ (x + 1)) 1 == 0) = true := by rw [show (2 : Int) ^ (x + 1) = ((2 ^ (x + 1) : Nat) : Int) by simp, z4]; rfl
                          have HZ3 := Lib.hid z3
                          have HZ5 := Lib.hid z5
                          clear z3 z4 z5
                          obtain ⟨j, HJ⟩ : ∃ j : Nat, Hid (k ||| 2 ^ (x + 1) = j) := ⟨_, rfl⟩
                          have hj2 : j < 256 := by rw [← HJ.out]; exact HZ5.out
                          have hji : bits .or .i64 (k : Int) (wrap64 (2 ^ (x + 1))) = (j : Int) := by rw [← HJ.out]; exact (by rw [shl_q _ hx8]; exact HZ3.out)
                          have hji2 : bits .or .i64 (k : Int) (IntKind.i64.wrap (2 ^ (x + 1))) = (j : Int) := by rw [IntWalk.i64_left]; exact hji
                          have hxw : IntKind.i64.wrap ((x : Int) + 1) = (x : Int) + 1 := IntWalk.i64_in _ (by omega)
                          have hj0 : (0 : Int) ≤ (j : Int) := by omega
                          have hj1 : (j : Int) < 256 := by omega
                          rw [HJ.out] at HX0
                          obtain ⟨q, HQQ⟩ : ∃ q, Hid (el nx j = q) := ⟨_, rfl⟩
                          obtain ⟨s9, HS9⟩ : ∃ s, Hid (wrap64 (q + n) = s) := ⟨_, rfl⟩
                          have hqw : wrap64 (q + n) = s9 := HS9.out
                          have hqw2 : IntKind.i64.wrap (q + n) = s9 := by rw [IntWalk.i64_left]; exact HS9.out
                          have cx := HF11.out.rx.cell (k := j) hj2
                          rw [HQQ.out] at cx
                          go_wp2_with fail
                          go_still_tail 17, (by kernel_rfl)
                          change wpList _ _ _ _ _ w11.drew
                          have HFD := Lib.hid (HF11.out.below (Below.refl w11.heap.size w11).drew)
                          have fx := HFD.out.rx.free j
                          have cx' := HFD.out.rx.cell (k := j) hj2
                          rw [HQQ.out] at cx'
                          obtain ⟨w12, HW12⟩ : ∃ W, Hid (W = w11.drew.setCell ⟨n1 + 1, j, none⟩ (.int .i64 s9)) := ⟨_, rfl⟩
                          have HF12 : Hid (QF w w12 v rows w.heap.size gn n1 (n1 + 1) x y zs (putZ nx j n)) := by
                            have h9 := HFD.out.set j (wrap64 (el nx j + n))
                            rw [HW12.out, ← HS9.out, ← HQQ.out]
                            exact h9
                          clear f1 f2 f3 cx
                          generalize w11.drew = wD at *
                          clear hqw hqw2 hji hji2 hxw
                          have HE : Hid (QF w w12 v rows w.heap.size gn n1 (n1 + 1) x y zs (st (k + 1))) := by rw [HX0.out]; exact HF12.out
                          rw [HW12.out] at HE
                          go_wp2_with fail
                          go_roundw
                          case rel => exact ⟨k + 1, by omega, by go_num, HE⟩
                          case measure => simp [intOf]; omega
                        · rw [hb2] at z4 HX0
                          have z4' : (bits .and .i64 ((k : Int) / 2 ^ (x + 1)) 1 == 0) = false := by rw [show (2 : Int) ^ (x + 1) = ((2 ^ (x + 1) : Nat) : Int) by simp, z4]; rfl
                          clear z3 z4 z5
                          have HE : Hid (QF w w11 v rows w.heap.size gn n1 (n1 + 1) x y zs (st (k + 1))) := by rw [HX0.out]; exact HF11.out
                          go_wp2_with fail
                          go_roundw
                          case rel => exact ⟨k + 1, by omega, by go_num, HE⟩
                          case measure => simp [intOf]; omega
                    · have hs2 : spotB 7 ((x : Int) + 1) y = false := by
                        cases hs : spotB 7 ((x : Int) + 1) y
                        · rfl
                        · have := (spotB_iff _ _ _).1 hs; omega
                      have hr0 : r = false := by rw [← HR.out]; simp [hasC, hx8]
                      subst hr0
                      refine (specCellOk_any ((x : Int) + 1) (y : Int) _).mono ?_
                      rintro e w10 ⟨rfl, hb10⟩
                      rw [hs2]
                      clear g9a g9b
                      have HK10 := Lib.hid (blk_below HK9.out hb10)
                      have g10a : w10.cell? ⟨w8.heap.size, 0, none⟩ = some (.int .i64 ((x : Int) + 1)) := by rw [blk_cell HK10.out]; rfl
                      have g10b : w10.cell? ⟨w8.heap.size, 1, none⟩ = some (.int .i64 (y : Int)) := by rw [blk_cell HK10.out]; rfl
                      have HF10 := Lib.hid (HF9.out.below hb10)
                      clear f1 f2 f3
                      obtain ⟨f1, f2, f3⟩ := HF10.out.cells
                      have HE : Hid (QF w w10 v rows w.heap.size gn n1 (n1 + 1) x y zs (st (k + 1))) := by rw [HX0.out]; exact HF10.out
                      go_wp2_with fail
                      go_roundw
                      case rel => exact ⟨k + 1, by omega, by go_num, HE⟩
                      case measure => simp [intOf]; omega
                  · skip
                    have HX9 : Hid (st (k + 1) = if r && !k.testBit (x + 1) then putZ (putZ nx (k ||| 2 ^ x) n) (k ||| 2 ^ (x + 1)) n else putZ nx (k ||| 2 ^ x) n) := HX0.out
                    clear HX0
                    have HX0 := HX9
                    clear HX9
                    obtain ⟨jb, HJb⟩ : ∃ jb : Nat, Hid (k ||| 2 ^ x = jb) := ⟨_, rfl⟩
                    have hj2b : jb < 256 := by rw [← HJb.out]; exact HB5.out
                    have hji : bits .or .i64 (k : Int) (wrap64 (2 ^ x)) = (jb : Int) := by rw [← HJb.out]; exact (by rw [shl_q _ hx7]; exact HB3.out)
                    have hji2 : bits .or .i64 (k : Int) (IntKind.i64.wrap (2 ^ x)) = (jb : Int) := by rw [IntWalk.i64_left]; exact hji
                    have hxw : IntKind.i64.wrap ((x : Int) + 1) = (x : Int) + 1 := IntWalk.i64_in _ (by omega)
                    have hj0b : (0 : Int) ≤ (jb : Int) := by omega
                    have hj1b : (jb : Int) < 256 := by omega
                    rw [HJb.out] at HX0
                    obtain ⟨qb, HQQb⟩ : ∃ qb, Hid (el nx jb = qb) := ⟨_, rfl⟩
                    obtain ⟨sb9, HS9b⟩ : ∃ s, Hid (wrap64 (qb + n) = s) := ⟨_, rfl⟩
                    have hqw : wrap64 (qb + n) = sb9 := HS9b.out
                    have hqw2 : IntKind.i64.wrap (qb + n) = sb9 := by rw [IntWalk.i64_left]; exact HS9b.out
                    have cx := HF8.out.rx.cell (k := jb) hj2b
                    rw [HQQb.out] at cx
                    go_wp2_with fail
                    go_still_tail 15, (by kernel_rfl)
                    change wpList _ _ _ _ _ w8.drew
                    have HFDb := Lib.hid (HF8.out.below (Below.refl w8.heap.size w8).drew)
                    have fx := HFDb.out.rx.free jb
                    have cx' := HFDb.out.rx.cell (k := jb) hj2b
                    rw [HQQb.out] at cx'
                    obtain ⟨w9, HW9⟩ : ∃ W, Hid (W = w8.drew.setCell ⟨n1 + 1, jb, none⟩ (.int .i64 sb9)) := ⟨_, rfl⟩
                    have HF9 : Hid (QF w w9 v rows w.heap.size gn n1 (n1 + 1) x y zs (putZ nx jb n)) := by
                      have h9 := HFDb.out.set jb (wrap64 (el nx jb + n))
                      rw [HW9.out, ← HS9b.out, ← HQQb.out]
                      exact h9
                    clear f1 f2 f3 cx
                    generalize w8.drew = wDb at *
                    clear hqw hqw2 hji hji2 hxw
                    go_upto_region 27 with (fail)
                    rw [← HW9.out]
                    obtain ⟨f1, f2, f3⟩ := HF9.out.cells
                    clear fx cx'
                    go_wp2_with fail
                    obtain ⟨w10, hw10, hk10, hb10⟩ := one_alloc w9 (.cells #[.int .i64 ((x : Int) + 1), .int .i64 (y : Int)] 44)
                    rw [← hw10]
                    have HL10 := Lib.hid (lt_of_block hk10)
                    have HK10 := Lib.hid hk10
                    clear hw10 hk10
                    have HF10 := Lib.hid (HF9.out.below hb10)
                    clear f1 f2 f3
                    obtain ⟨f1, f2, f3⟩ := HF10.out.cells
                    have g10a : w10.cell? ⟨w9.heap.size, 0, none⟩ = some (.int .i64 ((x : Int) + 1)) := by rw [blk_cell HK10.out]; rfl
                    have g10b : w10.cell? ⟨w9.heap.size, 1, none⟩ = some (.int .i64 (y : Int)) := by rw [blk_cell HK10.out]; rfl
                    clear hb10
                    have HX1 : Hid ((x : Int) + 1 = ((x + 1 : Nat) : Int)) := by unfold Hid; omega
                    go_wp2_with fail
                    by_cases hx8 : x + 1 ≤ 7
                    · have hs2 : spotB 7 ((x : Int) + 1) y = true := (spotB_iff _ _ _).2 ⟨by omega, by omega⟩
                      refine (specCellOk_any ((x : Int) + 1) (y : Int) _).mono ?_
                      rintro e w11 ⟨rfl, hb11⟩
                      rw [hs2]
                      clear g10a g10b
                      have HK11 := Lib.hid (blk_below HK10.out hb11)
                      have g11a : w11.cell? ⟨w9.heap.size, 0, none⟩ = some (.int .i64 ((x : Int) + 1)) := by rw [blk_cell HK11.out]; rfl
                      have g11b : w11.cell? ⟨w9.heap.size, 1, none⟩ = some (.int .i64 (y : Int)) := by rw [blk_cell HK11.out]; rfl
                      have HF11 := Lib.hid (HF10.out.below hb11)
                      clear f1 f2 f3
                      obtain ⟨f1, f2, f3⟩ := HF11.out.cells
                      have HR1 : Hid (hasB (setZ rows) (x + 1) y = r) := by unfold Hid; rw [HT.out, ← HR.out]; simp [hasC, hx8, hy7]
                      go_wp2_with fail
                      rw [HX1.out]
                      obtain ⟨B12, hB12, hr12⟩ := HF11.out.rd
                      refine (l03Has_yes v rows B12 _ hr12 (Nat.le_trans hB12 HF11.out.big.size) hok (x + 1) y (by omega) (by omega)).mono ?_
                      rintro e w12 ⟨rfl, hb12⟩
                      rw [HR1.out]
                      clear hr12
                      have HF12 := Lib.hid (HF11.out.below hb12)
                      clear f1 f2 f3
                      obtain ⟨f1, f2, f3⟩ := HF12.out.cells
                      clear g11a g11b
                      cases r
                      · have HE : Hid (QF w w12 v rows w.heap.size gn n1 (n1 + 1) x y zs (st (k + 1))) := by rw [HX0.out]; exact HF12.out
                        go_wp2_with fail
                        go_roundw
                        case rel => exact ⟨k + 1, by omega, by go_num, HE⟩
                        case measure => simp [intOf]; omega
                      · obtain ⟨_, _, z3, z4, z5⟩ := bits_at k (x + 1) hlt hx8
                        cases hb2 : k.testBit (x + 1)
                        · rw [hb2] at z4 HX0
                          have z4' : (bits .and .i64 ((k : Int) / 2 ^ (x + 1)) 1 == 0) = true := by rw [show (2 : Int) ^ (x + 1) = ((2 ^ (x + 1) : Nat) : Int) by simp, z4]; rfl
                          have HZ3 := Lib.hid z3
                          have HZ5 := Lib.hid z5
                          clear z3 z4 z5
                          obtain ⟨j, HJ⟩ : ∃ j : Nat, Hid (k ||| 2 ^ (x + 1) = j) := ⟨_, rfl⟩
                          have hj2 : j < 256 := by rw [← HJ.out]; exact HZ5.out
                          have hji : bits .or .i64 (k : Int) (wrap64 (2 ^ (x + 1))) = (j : Int) := by rw [← HJ.out]; exact (by rw [shl_q _ hx8]; exact HZ3.out)
                          have hji2 : bits .or .i64 (k : Int) (IntKind.i64.wrap (2 ^ (x + 1))) = (j : Int) := by rw [IntWalk.i64_left]; exact hji
                          have hxw : IntKind.i64.wrap ((x : Int) + 1) = (x : Int) + 1 := IntWalk.i64_in _ (by omega)
                          have hj0 : (0 : Int) ≤ (j : Int) := by omega
                          have hj1 : (j : Int) < 256 := by omega
                          rw [HJ.out] at HX0
                          obtain ⟨q, HQQ⟩ : ∃ q, Hid (el (putZ nx jb n) j = q) := ⟨_, rfl⟩
                          obtain ⟨s9, HS9⟩ : ∃ s, Hid (wrap64 (q + n) = s) := ⟨_, rfl⟩
                          have hqw : wrap64 (q + n) = s9 := HS9.out
                          have hqw2 : IntKind.i64.wrap (q + n) = s9 := by rw [IntWalk.i64_left]; exact HS9.out
                          have cx := HF12.out.rx.cell (k := j) hj2
                          rw [HQQ.out] at cx
                          go_wp2_with fail
                          go_still_tail 17, (by kernel_rfl)
                          change wpList _ _ _ _ _ w12.drew
                          have HFD := Lib.hid (HF12.out.below (Below.refl w12.heap.size w12).drew)
                          have fx := HFD.out.rx.free j
                          have cx' := HFD.out.rx.cell (k := j) hj2
                          rw [HQQ.out] at cx'
                          obtain ⟨w13, HW13⟩ : ∃ W, Hid (W = w12.drew.setCell ⟨n1 + 1, j, none⟩ (.int .i64 s9)) := ⟨_, rfl⟩
                          have HF13 : Hid (QF w w13 v rows w.heap.size gn n1 (n1 + 1) x y zs (putZ (putZ nx jb n) j n)) := by
                            have h9 := HFD.out.set j (wrap64 (el (putZ nx jb n) j + n))
                            rw [HW13.out, ← HS9.out, ← HQQ.out]
                            exact h9
                          clear f1 f2 f3 cx
                          generalize w12.drew = wD at *
                          clear hqw hqw2 hji hji2 hxw
                          have HE : Hid (QF w w13 v rows w.heap.size gn n1 (n1 + 1) x y zs (st (k + 1))) := by rw [HX0.out]; exact HF13.out
                          rw [HW13.out] at HE
                          go_wp2_with fail
                          go_roundw
                          case rel => exact ⟨k + 1, by omega, by go_num, HE⟩
                          case measure => simp [intOf]; omega
                        · rw [hb2] at z4 HX0
                          have z4' : (bits .and .i64 ((k : Int) / 2 ^ (x + 1)) 1 == 0) = false := by rw [show (2 : Int) ^ (x + 1) = ((2 ^ (x + 1) : Nat) : Int) by simp, z4]; rfl
                          clear z3 z4 z5
                          have HE : Hid (QF w w12 v rows w.heap.size gn n1 (n1 + 1) x y zs (st (k + 1))) := by rw [HX0.out]; exact HF12.out
                          go_wp2_with fail
                          go_roundw
                          case rel => exact ⟨k + 1, by omega, by go_num, HE⟩
                          case measure => simp [intOf]; omega
                    · have hs2 : spotB 7 ((x : Int) + 1) y = false := by
                        cases hs : spotB 7 ((x : Int) + 1) y
                        · rfl
                        · have := (spotB_iff _ _ _).1 hs; omega
                      have hr0 : r = false := by rw [← HR.out]; simp [hasC, hx8]
                      subst hr0
                      refine (specCellOk_any ((x : Int) + 1) (y : Int) _).mono ?_
                      rintro e w11 ⟨rfl, hb11⟩
                      rw [hs2]
                      clear g10a g10b
                      have HK11 := Lib.hid (blk_below HK10.out hb11)
                      have g11a : w11.cell? ⟨w9.heap.size, 0, none⟩ = some (.int .i64 ((x : Int) + 1)) := by rw [blk_cell HK11.out]; rfl
                      have g11b : w11.cell? ⟨w9.heap.size, 1, none⟩ = some (.int .i64 (y : Int)) := by rw [blk_cell HK11.out]; rfl
                      have HF11 := Lib.hid (HF10.out.below hb11)
                      clear f1 f2 f3
                      obtain ⟨f1, f2, f3⟩ := HF11.out.cells
                      have HE : Hid (QF w w11 v rows w.heap.size gn n1 (n1 + 1) x y zs (st (k + 1))) := by rw [HX0.out]; exact HF11.out
                      go_wp2_with fail
                      go_roundw
                      case rel => exact ⟨k + 1, by omega, by go_num, HE⟩
                      case measure => simp [intOf]; omega
                · have hs : spotB 7 x ((y : Int) + 1) = false := by
                    cases hs : spotB 7 x ((y : Int) + 1)
                    · rfl
                    · have := (spotB_iff _ _ _).1 hs; omega
                  have hb0 : b = false := by rw [← HB.out]; simp [hasC, hy8]
                  subst hb0
                  refine (specCellOk_any (x : Int) ((y : Int) + 1) _).mono ?_
                  rintro e w7 ⟨rfl, hb7⟩
                  rw [hs]
                  clear g6a g6b
                  have HK7 := Lib.hid (blk_below HK6.out hb7)
                  have g7a : w7.cell? ⟨w5.heap.size, 0, none⟩ = some (.int .i64 (x : Int)) := by rw [blk_cell HK7.out]; rfl
                  have g7b : w7.cell? ⟨w5.heap.size, 1, none⟩ = some (.int .i64 ((y : Int) + 1)) := by rw [blk_cell HK7.out]; rfl
                  have HF7 := Lib.hid (HF6.out.below hb7)
                  clear f1 f2 f3
                  obtain ⟨f1, f2, f3⟩ := HF7.out.cells
                  clear g7a g7b
                  have HX0 : Hid (st (k + 1) = if r && !k.testBit (x + 1) then putZ nx (k ||| 2 ^ (x + 1)) n else nx) := HX0.out
                  go_wp2_with fail
                  obtain ⟨w8, hw8, hk8, hb8⟩ := one_alloc w7 (.cells #[.int .i64 ((x : Int) + 1), .int .i64 (y : Int)] 44)
                  rw [← hw8]
                  have HL8 := Lib.hid (lt_of_block hk8)
                  have HK8 := Lib.hid hk8
                  clear hw8 hk8
                  have HF8 := Lib.hid (HF7.out.below hb8)
                  clear f1 f2 f3
                  obtain ⟨f1, f2, f3⟩ := HF8.out.cells
                  have g8a : w8.cell? ⟨w7.heap.size, 0, none⟩ = some (.int .i64 ((x : Int) + 1)) := by rw [blk_cell HK8.out]; rfl
                  have g8b : w8.cell? ⟨w7.heap.size, 1, none⟩ = some (.int .i64 (y : Int)) := by rw [blk_cell HK8.out]; rfl
                  clear hb8
                  have HX1 : Hid ((x : Int) + 1 = ((x + 1 : Nat) : Int)) := by unfold Hid; omega
                  go_wp2_with fail
                  by_cases hx8 : x + 1 ≤ 7
                  · have hs2 : spotB 7 ((x : Int) + 1) y = true := (spotB_iff _ _ _).2 ⟨by omega, by omega⟩
                    refine (specCellOk_any ((x : Int) + 1) (y : Int) _).mono ?_
                    rintro e w9 ⟨rfl, hb9⟩
                    rw [hs2]
                    clear g8a g8b
                    have HK9 := Lib.hid (blk_below HK8.out hb9)
                    have g9a : w9.cell? ⟨w7.heap.size, 0, none⟩ = some (.int .i64 ((x : Int) + 1)) := by rw [blk_cell HK9.out]; rfl
                    have g9b : w9.cell? ⟨w7.heap.size, 1, none⟩ = some (.int .i64 (y : Int)) := by rw [blk_cell HK9.out]; rfl
                    have HF9 := Lib.hid (HF8.out.below hb9)
                    clear f1 f2 f3
                    obtain ⟨f1, f2, f3⟩ := HF9.out.cells
                    have HR1 : Hid (hasB (setZ rows) (x + 1) y = r) := by unfold Hid; rw [HT.out, ← HR.out]; simp [hasC, hx8, hy7]
                    go_wp2_with fail
                    rw [HX1.out]
                    obtain ⟨B10, hB10, hr10⟩ := HF9.out.rd
                    refine (l03Has_yes v rows B10 _ hr10 (Nat.le_trans hB10 HF9.out.big.size) hok (x + 1) y (by omega) (by omega)).mono ?_
                    rintro e w10 ⟨rfl, hb10⟩
                    rw [HR1.out]
                    clear hr10
                    have HF10 := Lib.hid (HF9.out.below hb10)
                    clear f1 f2 f3
                    obtain ⟨f1, f2, f3⟩ := HF10.out.cells
                    clear g9a g9b
                    cases r
                    · have HE : Hid (QF w w10 v rows w.heap.size gn n1 (n1 + 1) x y zs (st (k + 1))) := by rw [HX0.out]; exact HF10.out
                      go_wp2_with fail
                      go_roundw
                      case rel => exact ⟨k + 1, by omega, by go_num, HE⟩
                      case measure => simp [intOf]; omega
                    · obtain ⟨_, _, z3, z4, z5⟩ := bits_at k (x + 1) hlt hx8
                      cases hb2 : k.testBit (x + 1)
                      · rw [hb2] at z4 HX0
                        have z4' : (bits .and .i64 ((k : Int) / 2 ^ (x + 1)) 1 == 0) = true := by rw [show (2 : Int) ^ (x + 1) = ((2 ^ (x + 1) : Nat) : Int) by simp, z4]; rfl
                        have HZ3 := Lib.hid z3
                        have HZ5 := Lib.hid z5
                        clear z3 z4 z5
                        obtain ⟨j, HJ⟩ : ∃ j : Nat, Hid (k ||| 2 ^ (x + 1) = j) := ⟨_, rfl⟩
                        have hj2 : j < 256 := by rw [← HJ.out]; exact HZ5.out
                        have hji : bits .or .i64 (k : Int) (wrap64 (2 ^ (x + 1))) = (j : Int) := by rw [← HJ.out]; exact (by rw [shl_q _ hx8]; exact HZ3.out)
                        have hji2 : bits .or .i64 (k : Int) (IntKind.i64.wrap (2 ^ (x + 1))) = (j : Int) := by rw [IntWalk.i64_left]; exact hji
                        have hxw : IntKind.i64.wrap ((x : Int) + 1) = (x : Int) + 1 := IntWalk.i64_in _ (by omega)
                        have hj0 : (0 : Int) ≤ (j : Int) := by omega
                        have hj1 : (j : Int) < 256 := by omega
                        rw [HJ.out] at HX0
                        obtain ⟨q, HQQ⟩ : ∃ q, Hid (el nx j = q) := ⟨_, rfl⟩
                        obtain ⟨s9, HS9⟩ : ∃ s, Hid (wrap64 (q + n) = s) := ⟨_, rfl⟩
                        have hqw : wrap64 (q + n) = s9 := HS9.out
                        have hqw2 : IntKind.i64.wrap (q + n) = s9 := by rw [IntWalk.i64_left]; exact HS9.out
                        have cx := HF10.out.rx.cell (k := j) hj2
                        rw [HQQ.out] at cx
                        go_wp2_with fail
                        go_still_tail 17, (by kernel_rfl)
                        change wpList _ _ _ _ _ w10.drew
                        have HFD := Lib.hid (HF10.out.below (Below.refl w10.heap.size w10).drew)
                        have fx := HFD.out.rx.free j
                        have cx' := HFD.out.rx.cell (k := j) hj2
                        rw [HQQ.out] at cx'
                        obtain ⟨w11, HW11⟩ : ∃ W, Hid (W = w10.drew.setCell ⟨n1 + 1, j, none⟩ (.int .i64 s9)) := ⟨_, rfl⟩
                        have HF11 : Hid (QF w w11 v rows w.heap.size gn n1 (n1 + 1) x y zs (putZ nx j n)) := by
                          have h9 := HFD.out.set j (wrap64 (el nx j + n))
                          rw [HW11.out, ← HS9.out, ← HQQ.out]
                          exact h9
                        clear f1 f2 f3 cx
                        generalize w10.drew = wD at *
                        clear hqw hqw2 hji hji2 hxw
                        have HE : Hid (QF w w11 v rows w.heap.size gn n1 (n1 + 1) x y zs (st (k + 1))) := by rw [HX0.out]; exact HF11.out
                        rw [HW11.out] at HE
                        go_wp2_with fail
                        go_roundw
                        case rel => exact ⟨k + 1, by omega, by go_num, HE⟩
                        case measure => simp [intOf]; omega
                      · rw [hb2] at z4 HX0
                        have z4' : (bits .and .i64 ((k : Int) / 2 ^ (x + 1)) 1 == 0) = false := by rw [show (2 : Int) ^ (x + 1) = ((2 ^ (x + 1) : Nat) : Int) by simp, z4]; rfl
                        clear z3 z4 z5
                        have HE : Hid (QF w w10 v rows w.heap.size gn n1 (n1 + 1) x y zs (st (k + 1))) := by rw [HX0.out]; exact HF10.out
                        go_wp2_with fail
                        go_roundw
                        case rel => exact ⟨k + 1, by omega, by go_num, HE⟩
                        case measure => simp [intOf]; omega
                  · have hs2 : spotB 7 ((x : Int) + 1) y = false := by
                      cases hs : spotB 7 ((x : Int) + 1) y
                      · rfl
                      · have := (spotB_iff _ _ _).1 hs; omega
                    have hr0 : r = false := by rw [← HR.out]; simp [hasC, hx8]
                    subst hr0
                    refine (specCellOk_any ((x : Int) + 1) (y : Int) _).mono ?_
                    rintro e w9 ⟨rfl, hb9⟩
                    rw [hs2]
                    clear g8a g8b
                    have HK9 := Lib.hid (blk_below HK8.out hb9)
                    have g9a : w9.cell? ⟨w7.heap.size, 0, none⟩ = some (.int .i64 ((x : Int) + 1)) := by rw [blk_cell HK9.out]; rfl
                    have g9b : w9.cell? ⟨w7.heap.size, 1, none⟩ = some (.int .i64 (y : Int)) := by rw [blk_cell HK9.out]; rfl
                    have HF9 := Lib.hid (HF8.out.below hb9)
                    clear f1 f2 f3
                    obtain ⟨f1, f2, f3⟩ := HF9.out.cells
                    have HE : Hid (QF w w9 v rows w.heap.size gn n1 (n1 + 1) x y zs (st (k + 1))) := by rw [HX0.out]; exact HF9.out
                    go_wp2_with fail
                    go_roundw
                    case rel => exact ⟨k + 1, by omega, by go_num, HE⟩
                    case measure => simp [intOf]; omega
            · rw [hb] at hsh
              have HFR : Hid (wrap64 ((k : Int) - wrap64 (2 ^ x)) = ((k - 2 ^ x : Nat) : Int)) := by
                unfold Hid
                rw [shl_q x hx7]
                have h1 : 2 ^ x ≤ k := Nat.ge_two_pow_of_testBit hb
                generalize (2 ^ x : Nat) = p at *
                unfold wrap64; omega
              cases h
              · have HX : Hid (st (k + 1) = nx) := by unfold Hid; rw [HIN.out, inZ, if_neg hn0]; simp [hb]
                clear hn0
                go_wp2_with fail
                rw [HFR.out]
                obtain ⟨B5, hB5, hr5⟩ := HF4.out.rd
                refine (l03Has_yes v rows B5 _ hr5 (Nat.le_trans hB5 HF4.out.big.size) hok x y (by omega) (by omega)).mono ?_
                rintro e w5 ⟨rfl, hb5⟩
                rw [HH1.out]
                clear hr5
                have HF5 := Lib.hid (HF4.out.below hb5)
                clear f1 f2 f3
                obtain ⟨f1, f2, f3⟩ := HF5.out.cells
                have HE : Hid (QF w w5 v rows w.heap.size gn n1 (n1 + 1) x y zs (st (k + 1))) := by rw [HX.out]; exact HF5.out
                go_wp2_with fail
                go_roundw
                case rel => exact ⟨k + 1, by omega, by go_num, HE⟩
                case measure => simp [intOf]; omega
              · have HX : Hid (st (k + 1) = putZ nx (k - 2 ^ x) n) := by unfold Hid; rw [HIN.out, inZ, if_neg hn0]; simp [hb]
                clear hn0
                go_wp2_with fail
                rw [HFR.out]
                obtain ⟨B5, hB5, hr5⟩ := HF4.out.rd
                refine (l03Has_yes v rows B5 _ hr5 (Nat.le_trans hB5 HF4.out.big.size) hok x y (by omega) (by omega)).mono ?_
                rintro e w5 ⟨rfl, hb5⟩
                rw [HH1.out]
                clear hr5
                have HF5 := Lib.hid (HF4.out.below hb5)
                clear f1 f2 f3
                obtain ⟨f1, f2, f3⟩ := HF5.out.cells
                obtain ⟨j, HJ⟩ : ∃ j : Nat, Hid (k - 2 ^ x = j) := ⟨_, rfl⟩
                have hj2 : j < 256 := by rw [← HJ.out]; exact Nat.lt_of_le_of_lt (Nat.sub_le _ _) hlt
                rw [HJ.out] at HX ⊢
                clear HFR
                have hj0 : (0 : Int) ≤ (j : Int) := by omega
                have hj1 : (j : Int) < 256 := by omega
                have cx := HF5.out.rx.cell (k := j) hj2
                have fx := HF5.out.rx.free (j)
                have HE : Hid (QF w (w5.setCell ⟨n1 + 1, j, none⟩ (.int .i64 (wrap64 (el nx (j) + n)))) v rows w.heap.size gn n1 (n1 + 1) x y zs (st (k + 1))) := by rw [HX.out]; exact HF5.out.set (j) _
                generalize el nx (j) = q at *
                go_wp2_with fail
                go_roundw
                case rel => exact ⟨k + 1, by omega, by go_num, HE⟩
                case measure => simp [intOf]; omega
        · have ht : decide ((k : Int) < 256) = false := by simp only [decide_eq_false_iff_not]; omega
          obtain rfl : k = 256 := by omega
          rw [← HS.out] at HF4
          have HFN : Hid (QB w wr v rows w.heap.size (n1 + 1) (pf (i + 1))) := by
            have h := HF4.out
            rw [HZS2.out]
            exact ⟨h.er, h.rx, h.big, h.rd, h.l1, h.lx⟩
          go_wp2_with fail
          go_roundw
          case rel => exact ⟨i + 1, _, by omega, by go_num, rfl, HFN⟩
          case measure => simp [intOf]; omega
    · have hti : decide ((i : Int) < 64) = false := by simp only [decide_eq_false_iff_not]; omega
      obtain rfl : i = 64 := by omega
      have cq := HQ.out.rn.cell (k := 0) (by omega)
      have HF : Hid (el (pf 64) 0 = res) := (HFZ.out _ rfl).symm
      go_wp2_with fail
      go_ret
      exact ⟨ret_int HF.out, HQ.out.big⟩
end Go.Proofs.Ytehnbalbpfmijaa

namespace Go.Proofs.Ytehnbalbpfmijaa
open Go.RowKit

theorem OwnI.mono0 {w : World} {lo lo' : Nat} {v : Value} {zs : List Int} (h : OwnI w lo v zs) (hl : lo' ≤ lo) : OwnI w lo' v zs := by
  refine ⟨h.1, ?_⟩
  rcases h.2 with h2 | ⟨g, cap, cur, e, hb, r⟩
  · exact .inl h2
  · exact .inr ⟨g, cap, cur, e, by omega, r⟩
/-- The rows of the floor of trees. -/
def rowC (a : Int) : Int := 2 ^ (2 * a.toNat - 1) - 1
def floorRows (c : Int) (n : Nat) : List Int := (c - 1) :: List.replicate (2 * n - 2) c

/-- Behind k rounds: block H holds the result's nil, block H + 2 the value of the row, which has k elements. -/
def FloorRel (w wr : World) (v : Value) (zs : List Int) : Prop :=
  wr.rowIs w.heap.size 39 1 (fun _ => .slice none 0 0) ∧ wr.rowIs (w.heap.size + 2) 39 1 (fun _ => v) ∧ OwnI wr (w.heap.size + 1) v zs ∧ v.ownBlock ≠ some (w.heap.size + 2) ∧
    w.heap.size + 3 ≤ wr.heap.size ∧ Below w.heap.size w wr
theorem FloorRel.step {w wr w1 : World} {v : Value} {zs : List Int} {c : Int} {g cap : Nat} (h : FloorRel w wr v zs)
    (hown : w1.ownsRow (w.heap.size + 1) 3 1 (.slice (some ⟨g, 0, none⟩) (zs.length + 1) cap) (zs.length + 1) (zs.map (Value.int .i64) ++ [.int .i64 c]))
    (hg : (wr.alloc (.cells #[.int .i64 c] 3)).grownBy w1 v.ownBlock) (hat : v.ownBlock = some g ∨ g = wr.heap.size + 1) :
    FloorRel w (w1.setCell ⟨w.heap.size + 2, 0, none⟩ (.slice (some ⟨g, 0, none⟩) (zs.length + 1) cap)) (.slice (some ⟨g, 0, none⟩) (zs.length + 1) cap) (zs ++ [c]) := by
  obtain ⟨h1, h2, h3, h4, h5, h6⟩ := h
  have hsz : wr.heap.size + 1 ≤ w1.heap.size := by simpa using hg.size
  have hne : g ≠ w.heap.size + 2 := by
    rcases hat with e | e
    · rintro rfl; exact h4 e
    · omega
  have hlow : ∀ k, v.ownBlock = some k → w.heap.size + 1 ≤ k := fun k hk => (h3.lt k hk).1
  have hb0 : w1.heap[w.heap.size]? = wr.heap[w.heap.size]? :=
    (hg.block _ (by simp; omega) (fun e => by have := hlow _ e.symm; omega)).trans (Below.heap_alloc _ _ _ (by omega))
  have hb2 : w1.heap[w.heap.size + 2]? = wr.heap[w.heap.size + 2]? :=
    (hg.block _ (by simp; omega) (fun e => h4 e.symm)).trans (Below.heap_alloc _ _ _ (by omega))
  refine ⟨(h1.of_block hb0).setOther (by simp) _, ((h2.of_block hb2).set 0 _).congr fun i hi => by simp [show i = 0 by omega], ?_, by simp [Value.ownBlock, hne], by simp; omega, ?_⟩
  · have e : (zs ++ [c]).length = zs.length + 1 := by simp
    have e2 : (zs ++ [c]).map (Value.int .i64) = zs.map (Value.int .i64) ++ [.int .i64 c] := by simp
    unfold OwnI
    rw [e, e2]
    exact Go.ownsRow_setCell_other hown (by simp [Value.ownBlock, hne]) _
  · exact ((h6.alloc (by omega) _).grown hg (by simp; omega) (fun k hk => by have := hlow k hk; omega)).setCell (by simp) _

theorem row_one (w : World) (v : Value) (t : TypeId) : (w.alloc (.cells #[v] t)).rowIs w.heap.size t 1 (fun _ => v) :=
  World.rowIs_alloc w #[v] t (fun _ => v) (fun i hi => by
    have h : i = 0 := by simpa using hi
    subst h
    rfl)
theorem floor_start (w : World) : FloorRel w (((w.alloc (.cells #[.slice none 0 0] 39)).alloc (.cells #[] 3)).alloc (.cells #[.slice (some ⟨w.heap.size + 1, 0, none⟩) 0 0] 39)) (.slice (some ⟨w.heap.size + 1, 0, none⟩) 0 0) [] := by
  have a1 := row_one w (.slice none 0 0) 39
  have a2 := World.ownsRow_lit (e := 3) (size := 1) (base := w.heap.size + 1) (w.alloc (.cells #[.slice none 0 0] 39)) #[] 0 (by simp) (by simp [maxLen]) (by simp)
  have a3 := row_one ((w.alloc (.cells #[.slice none 0 0] 39)).alloc (.cells #[] 3)) (.slice (some ⟨w.heap.size + 1, 0, none⟩) 0 0) 39
  refine ⟨(a1.alloc _).alloc _, by simpa using a3, ?_, by simp [Value.ownBlock], by simp, ((((Below.refl _ _).alloc (Nat.le_refl _) _).alloc (by simp) _).alloc (by simp; omega) _)⟩
  have := World.ownsRow.alloc a2 (.cells #[.slice (some ⟨w.heap.size + 1, 0, none⟩) 0 0] 39)
  simpa [OwnI] using this

/-- A region with a row of the call's own comes back. -/
def RetFloor (w : World) (zs : List Int) (e : Ending) (w' : World) : Prop := ∃ v, e = .returned (.agg #[v]) ∧ OwnI w' w.heap.size v zs ∧ Below w.heap.size w w'
theorem floor_end {w wr : World} {zs : List Int} {g cap : Nat} {c : Int} (h : FloorRel w wr (.slice (some ⟨g, 0, none⟩) zs.length cap) zs) :
    RetFloor w (zs.set 0 c) (.returned (.agg #[.slice (some ⟨g, 0, none⟩) zs.length cap])) ((wr.setCell ⟨g, 0, none⟩ (.int .i64 c)).setCell ⟨w.heap.size, 0, none⟩ (.slice (some ⟨g, 0, none⟩) zs.length cap)) := by
  obtain ⟨h1, h2, h3, h4, h5, h6⟩ := h
  have hlow := h3.lt g rfl
  refine ⟨_, rfl, ?_, (h6.setCell (by show w.heap.size ≤ g; omega) _).setCell (Nat.le_refl _) _⟩
  have hs := (World.ownsRow.stored h3 0 (.int .i64 c)).1
  have hs2 := Go.ownsRow_setCell_other hs (a := ⟨w.heap.size, 0, none⟩) (by simp [Value.ownBlock]; omega) (.slice (some ⟨g, 0, none⟩) zs.length cap)
  have e : (zs.set 0 c).length = zs.length := by simp
  have e2 : (zs.set 0 c).map (Value.int .i64) = (zs.map (Value.int .i64)).set 0 (.int .i64 c) := by rw [List.map_set]
  exact OwnI.mono0 (by unfold OwnI; rw [e, e2]; exact hs2) (by omega)

theorem floor_cell {w wr : World} {zs : List Int} {g cap : Nat} {u b : Value} (h : FloorRel w wr (.slice (some ⟨g, 0, none⟩) zs.length cap) zs) :
    ((wr.setCell ⟨g, 0, none⟩ u).setCell ⟨w.heap.size, 0, none⟩ b).cell? ⟨w.heap.size, 0, none⟩ = some b := by
  have hlow := h.2.2.1.lt g rfl
  have h1 := ((h.1.setOther (a := ⟨g, 0, none⟩) (by show w.heap.size ≠ g; omega) u).set 0 b).cell (i := 0) (by omega)
  simpa using h1
theorem floor_rows (c : Int) (n : Nat) (h : 1 ≤ n) (zs : List Int) (hz : zs = List.replicate zs.length c) (hl : zs.length = 2 * n - 1) : zs.set 0 (c - 1) = floorRows c n := by
  rw [hl] at hz
  rw [hz, show 2 * n - 1 = (2 * n - 2) + 1 from by omega, List.replicate_succ, List.set_cons_zero]
  rfl

set_option maxRecDepth 100000 in
set_option maxHeartbeats 2000000 in
theorem TreeFloor_at1 (n : Nat) (h1 : 1 ≤ n) (h4 : n ≤ 4) (w : World) :
    Calls Try.prog 51 #[.int .i64 1, .int .i64 n] w (RetFloor w (floorRows 1 n)) := by
  obtain ⟨i0, hi0, hz0, hz1, hz2⟩ := info_parts infoInt
  have hg : gridB 1 n = true := by
    simp only [gridB, Bool.and_eq_true, inB_iff]; omega
  have hw : ∀ z : Int, 0 ≤ z → z ≤ 300 → IntKind.i64.wrap z = z := fun z h1 h2 => IntWalk.i64_in z (by omega)
  have hs1 : ∀ W : World, Sem.run Try.prog (Op.shift BinOp.shl IntKind.i64 1 IntKind.i64 1) W = .ok (.int .i64 2) W := fun _ => by kernel_rfl
  have hs3 : ∀ W : World, Sem.run Try.prog (Op.shift BinOp.shl IntKind.i64 1 IntKind.i64 3) W = .ok (.int .i64 8) W := fun _ => by kernel_rfl
  have hs5 : ∀ W : World, Sem.run Try.prog (Op.shift BinOp.shl IntKind.i64 1 IntKind.i64 5) W = .ok (.int .i64 32) W := fun _ => by kernel_rfl
  have hs7 : ∀ W : World, Sem.run Try.prog (Op.shift BinOp.shl IntKind.i64 1 IntKind.i64 7) W = .ok (.int .i64 128) W := fun _ => by kernel_rfl
  go_enter Try.func51, Try.ntmps51
  go_wp2_with fail
  refine (GridOk_any _ _ _).mono ?_
  rintro e w1 ⟨rfl, rfl⟩
  go_wp2_with fail
  clear hg
  go_loopw [16] (fun s wr => ∃ (v : Value) (zs : List Int), zs.length ≤ 2 * n - 1 ∧ s = .int .i64 (zs.length : Int) ∧ FloorRel w wr v zs ∧ Hid (zs = List.replicate zs.length 1)) (fun s _ => 2 * n - 1 - (intOf s).toNat)
  case atStart => exact ⟨.slice (some ⟨w.heap.size + 1, 0, none⟩) 0 0, [], by simp, rfl, floor_start w, rfl⟩
  case round =>
    obtain ⟨v, zs, hk, rfl, hr, HZ⟩ := hrel
    by_cases hlt : zs.length < 2 * n - 1
    · obtain ⟨r1, r2, r3, r4, r5, r6⟩ := id hr
      have hcell := r2.cell (i := 0) (by omega)
      have hfr := r2.frozen 0
      have hne : some (w.heap.size + 2) ≠ v.ownBlock := fun e => r4 e.symm
      have R3 := Lib.hid r3
      have HC := Lib.hid ((r2.alloc (.cells #[.int .i64 1] 3)).cell (i := 0) (by omega))
      have hca : (wr.alloc (.cells #[.int .i64 1] 3)).cell? ⟨w.heap.size + 1 + 1, 0, none⟩ = some v := HC.out
      have hcb : wr.cell? ⟨w.heap.size + 1 + 1, 0, none⟩ = some v := hcell
      have HF := Lib.hid ((r2.alloc (.cells #[.int .i64 1] 3)).frozen 0)
      have HR := Lib.hid hr
      clear r1 r2 r3 hr
      go_wp2_with fail
      go_region_law ((refine step_append_lies _ (by rfl) _ _ _ (by rfl) (w.heap.size + 1) 3 i0 _ 1 8 Try.underlying31 hi0 hz0 hz1 hz2 rfl (by omega) v zs.length _ (by rfl) ((World.ownsRow.alloc R3.out _).drew) ⟨wr.heap.size, 0, none⟩ 1 1 [.int .i64 1] (by rfl) (by rfl) (World.news_of_block (cs := #[.int .i64 1]) (t := 3) (fr := (0, 0)) (heap_alloc_new wr _)) (by simp [Value.oneCell']) (by omega) (by unfold maxLen; omega) (by omega) (by simp; omega) (wr.heap.size + 1) (by simp) ?_; intro gg cap w1 hown1 hgrow hat hlt1; have hfz := (hgrow.frozen_far ⟨w.heap.size + 2, 0, none⟩ (by simp; omega) hne).trans HF.out; have hcc := (hgrow.cell_far ⟨w.heap.size + 2, 0, none⟩ (by simp; omega) hne).trans HC.out))
      all_goals
        have HS := FloorRel.step (c := 1) HR.out hown1 ⟨hgrow.os, hgrow.tape, hgrow.output, hgrow.size, hgrow.block⟩ hat
        go_wp2_with fail
        go_roundw
        case rel => exact ⟨_, zs ++ [1], by simp; omega, by simp, HS, by (unfold Hid; rw [List.length_append, List.length_singleton, List.replicate_succ', ← HZ.out])⟩
        case measure => simp [intOf]; omega
    · have hpos : 0 < zs.length := by omega
      obtain ⟨g, cap, rfl, hlo, hgl⟩ := World.ownsRow.form hr.2.2.1 hpos
      have hE := Lib.hid (floor_end (c := 1 - 1) hr)
      have hR := Lib.hid (floor_cell (u := .int .i64 (1 - 1)) (b := .slice (some ⟨g, 0, none⟩) zs.length cap) hr)
      obtain ⟨r1, r2, r3, r4, r5, r6⟩ := hr
      have hc2 : wr.cell? ⟨w.heap.size + 1 + 1, 0, none⟩ = some (.slice (some ⟨g, 0, none⟩) zs.length cap) := r2.cell (i := 0) (by omega)
      have hc0 := r1.cell (i := 0) (by omega)
      have hf0 := r1.frozen 0
      have hcg : wr.cell? ⟨g, 0, none⟩ = some (.int .i64 1) := by
        rw [World.ownsRow.cellAt r3 0 (by omega), HZ.out, List.getElem?_map, List.getElem?_replicate, if_pos hpos]; rfl
      have hfg := World.ownsRow.frozenAt r3 0
      have hpi : (0 : Int) < (zs.length : Int) := by omega
      have hne1 : g ≠ w.heap.size + 1 + 1 := fun e => r4 (by simp [Value.ownBlock, e])
      have hne0 : g ≠ w.heap.size := by omega
      have HL : Hid (zs.length = 2 * n - 1) := by unfold Hid; omega
      clear r1 r2 r3 r4
      have HE := Lib.hid (floor_rows 1 n h1 zs HZ.out HL.out)
      go_wp2_with fail
      refine bodyPost_ret (v := .agg #[.slice (some ⟨g, 0, none⟩) zs.length cap]) (by have hR' := hR.out; simp only [Int.reduceSub] at hR'; simp [results, Try.results51, go_sem, hR']) rfl ?_
      have hE2 := hE.out
      rw [HE.out] at hE2
      exact hE2

set_option maxRecDepth 100000 in
set_option maxHeartbeats 2000000 in
theorem TreeFloor_at2 (n : Nat) (h1 : 1 ≤ n) (h4 : n ≤ 4) (w : World) :
    Calls Try.prog 51 #[.int .i64 2, .int .i64 n] w (RetFloor w (floorRows 7 n)) := by
  obtain ⟨i0, hi0, hz0, hz1, hz2⟩ := info_parts infoInt
  have hg : gridB 2 n = true := by
    simp only [gridB, Bool.and_eq_true, inB_iff]; omega
  have hw : ∀ z : Int, 0 ≤ z → z ≤ 300 → IntKind.i64.wrap z = z := fun z h1 h2 => IntWalk.i64_in z (by omega)
  have hs1 : ∀ W : World, Sem.run Try.prog (Op.shift BinOp.shl IntKind.i64 1 IntKind.i64 1) W = .ok (.int .i64 2) W := fun _ => by kernel_rfl
  have hs3 : ∀ W : World, Sem.run Try.prog (Op.shift BinOp.shl IntKind.i64 1 IntKind.i64 3) W = .ok (.int .i64 8) W := fun _ => by kernel_rfl
  have hs5 : ∀ W : World, Sem.run Try.prog (Op.shift BinOp.shl IntKind.i64 1 IntKind.i64 5) W = .ok (.int .i64 32) W := fun _ => by kernel_rfl
  have hs7 : ∀ W : World, Sem.run Try.prog (Op.shift BinOp.shl IntKind.i64 1 IntKind.i64 7) W = .ok (.int .i64 128) W := fun _ => by kernel_rfl
  go_enter Try.func51, Try.ntmps51
  go_wp2_with fail
  refine (GridOk_any _ _ _).mono ?_
  rintro e w1 ⟨rfl, rfl⟩
  go_wp2_with fail
  clear hg
  go_loopw [16] (fun s wr => ∃ (v : Value) (zs : List Int), zs.length ≤ 2 * n - 1 ∧ s = .int .i64 (zs.length : Int) ∧ FloorRel w wr v zs ∧ Hid (zs = List.replicate zs.length 7)) (fun s _ => 2 * n - 1 - (intOf s).toNat)
  case atStart => exact ⟨.slice (some ⟨w.heap.size + 1, 0, none⟩) 0 0, [], by simp, rfl, floor_start w, rfl⟩
  case round =>
    obtain ⟨v, zs, hk, rfl, hr, HZ⟩ := hrel
    by_cases hlt : zs.length < 2 * n - 1
    · obtain ⟨r1, r2, r3, r4, r5, r6⟩ := id hr
      have hcell := r2.cell (i := 0) (by omega)
      have hfr := r2.frozen 0
      have hne : some (w.heap.size + 2) ≠ v.ownBlock := fun e => r4 e.symm
      have R3 := Lib.hid r3
      have HC := Lib.hid ((r2.alloc (.cells #[.int .i64 7] 3)).cell (i := 0) (by omega))
      have hca : (wr.alloc (.cells #[.int .i64 7] 3)).cell? ⟨w.heap.size + 1 + 1, 0, none⟩ = some v := HC.out
      have hcb : wr.cell? ⟨w.heap.size + 1 + 1, 0, none⟩ = some v := hcell
      have HF := Lib.hid ((r2.alloc (.cells #[.int .i64 7] 3)).frozen 0)
      have HR := Lib.hid hr
      clear r1 r2 r3 hr
      go_wp2_with fail
      go_region_law ((refine step_append_lies _ (by rfl) _ _ _ (by rfl) (w.heap.size + 1) 3 i0 _ 1 8 Try.underlying31 hi0 hz0 hz1 hz2 rfl (by omega) v zs.length _ (by rfl) ((World.ownsRow.alloc R3.out _).drew) ⟨wr.heap.size, 0, none⟩ 1 1 [.int .i64 7] (by rfl) (by rfl) (World.news_of_block (cs := #[.int .i64 7]) (t := 3) (fr := (0, 0)) (heap_alloc_new wr _)) (by simp [Value.oneCell']) (by omega) (by unfold maxLen; omega) (by omega) (by simp; omega) (wr.heap.size + 1) (by simp) ?_; intro gg cap w1 hown1 hgrow hat hlt1; have hfz := (hgrow.frozen_far ⟨w.heap.size + 2, 0, none⟩ (by simp; omega) hne).trans HF.out; have hcc := (hgrow.cell_far ⟨w.heap.size + 2, 0, none⟩ (by simp; omega) hne).trans HC.out))
      all_goals
        have HS := FloorRel.step (c := 7) HR.out hown1 ⟨hgrow.os, hgrow.tape, hgrow.output, hgrow.size, hgrow.block⟩ hat
        go_wp2_with fail
        go_roundw
        case rel => exact ⟨_, zs ++ [7], by simp; omega, by simp, HS, by (unfold Hid; rw [List.length_append, List.length_singleton, List.replicate_succ', ← HZ.out])⟩
        case measure => simp [intOf]; omega
    · have hpos : 0 < zs.length := by omega
      obtain ⟨g, cap, rfl, hlo, hgl⟩ := World.ownsRow.form hr.2.2.1 hpos
      have hE := Lib.hid (floor_end (c := 7 - 1) hr)
      have hR := Lib.hid (floor_cell (u := .int .i64 (7 - 1)) (b := .slice (some ⟨g, 0, none⟩) zs.length cap) hr)
      obtain ⟨r1, r2, r3, r4, r5, r6⟩ := hr
      have hc2 : wr.cell? ⟨w.heap.size + 1 + 1, 0, none⟩ = some (.slice (some ⟨g, 0, none⟩) zs.length cap) := r2.cell (i := 0) (by omega)
      have hc0 := r1.cell (i := 0) (by omega)
      have hf0 := r1.frozen 0
      have hcg : wr.cell? ⟨g, 0, none⟩ = some (.int .i64 7) := by
        rw [World.ownsRow.cellAt r3 0 (by omega), HZ.out, List.getElem?_map, List.getElem?_replicate, if_pos hpos]; rfl
      have hfg := World.ownsRow.frozenAt r3 0
      have hpi : (0 : Int) < (zs.length : Int) := by omega
      have hne1 : g ≠ w.heap.size + 1 + 1 := fun e => r4 (by simp [Value.ownBlock, e])
      have hne0 : g ≠ w.heap.size := by omega
      have HL : Hid (zs.length = 2 * n - 1) := by unfold Hid; omega
      clear r1 r2 r3 r4
      have HE := Lib.hid (floor_rows 7 n h1 zs HZ.out HL.out)
      go_wp2_with fail
      refine bodyPost_ret (v := .agg #[.slice (some ⟨g, 0, none⟩) zs.length cap]) (by have hR' := hR.out; simp only [Int.reduceSub] at hR'; simp [results, Try.results51, go_sem, hR']) rfl ?_
      have hE2 := hE.out
      rw [HE.out] at hE2
      exact hE2

set_option maxRecDepth 100000 in
set_option maxHeartbeats 2000000 in
theorem TreeFloor_at3 (n : Nat) (h1 : 1 ≤ n) (h4 : n ≤ 4) (w : World) :
    Calls Try.prog 51 #[.int .i64 3, .int .i64 n] w (RetFloor w (floorRows 31 n)) := by
  obtain ⟨i0, hi0, hz0, hz1, hz2⟩ := info_parts infoInt
  have hg : gridB 3 n = true := by
    simp only [gridB, Bool.and_eq_true, inB_iff]; omega
  have hw : ∀ z : Int, 0 ≤ z → z ≤ 300 → IntKind.i64.wrap z = z := fun z h1 h2 => IntWalk.i64_in z (by omega)
  have hs1 : ∀ W : World, Sem.run Try.prog (Op.shift BinOp.shl IntKind.i64 1 IntKind.i64 1) W = .ok (.int .i64 2) W := fun _ => by kernel_rfl
  have hs3 : ∀ W : World, Sem.run Try.prog (Op.shift BinOp.shl IntKind.i64 1 IntKind.i64 3) W = .ok (.int .i64 8) W := fun _ => by kernel_rfl
  have hs5 : ∀ W : World, Sem.run Try.prog (Op.shift BinOp.shl IntKind.i64 1 IntKind.i64 5) W = .ok (.int .i64 32) W := fun _ => by kernel_rfl
  have hs7 : ∀ W : World, Sem.run Try.prog (Op.shift BinOp.shl IntKind.i64 1 IntKind.i64 7) W = .ok (.int .i64 128) W := fun _ => by kernel_rfl
  go_enter Try.func51, Try.ntmps51
  go_wp2_with fail
  refine (GridOk_any _ _ _).mono ?_
  rintro e w1 ⟨rfl, rfl⟩
  go_wp2_with fail
  clear hg
  go_loopw [16] (fun s wr => ∃ (v : Value) (zs : List Int), zs.length ≤ 2 * n - 1 ∧ s = .int .i64 (zs.length : Int) ∧ FloorRel w wr v zs ∧ Hid (zs = List.replicate zs.length 31)) (fun s _ => 2 * n - 1 - (intOf s).toNat)
  case atStart => exact ⟨.slice (some ⟨w.heap.size + 1, 0, none⟩) 0 0, [], by simp, rfl, floor_start w, rfl⟩
  case round =>
    obtain ⟨v, zs, hk, rfl, hr, HZ⟩ := hrel
    by_cases hlt : zs.length < 2 * n - 1
    · obtain ⟨r1, r2, r3, r4, r5, r6⟩ := id hr
      have hcell := r2.cell (i := 0) (by omega)
      have hfr := r2.frozen 0
      have hne : some (w.heap.size + 2) ≠ v.ownBlock := fun e => r4 e.symm
      have R3 := Lib.hid r3
      have HC := Lib.hid ((r2.alloc (.cells #[.int .i64 31] 3)).cell (i := 0) (by omega))
      have hca : (wr.alloc (.cells #[.int .i64 31] 3)).cell? ⟨w.heap.size + 1 + 1, 0, none⟩ = some v := HC.out
      have hcb : wr.cell? ⟨w.heap.size + 1 + 1, 0, none⟩ = some v := hcell
      have HF := Lib.hid ((r2.alloc (.cells #[.int .i64 31] 3)).frozen 0)
      have HR := Lib.hid hr
      clear r1 r2 r3 hr
      go_wp2_with fail
      go_region_law ((refine step_append_lies _ (by rfl) _ _ _ (by rfl) (w.heap.size + 1) 3 i0 _ 1 8 Try.underlying31 hi0 hz0 hz1 hz2 rfl (by omega) v zs.length _ (by rfl) ((World.ownsRow.alloc R3.out _).drew) ⟨wr.heap.size, 0, none⟩ 1 1 [.int .i64 31] (by rfl) (by rfl) (World.news_of_block (cs := #[.int .i64 31]) (t := 3) (fr := (0, 0)) (heap_alloc_new wr _)) (by simp [Value.oneCell']) (by omega) (by unfold maxLen; omega) (by omega) (by simp; omega) (wr.heap.size + 1) (by simp) ?_; intro gg cap w1 hown1 hgrow hat hlt1; have hfz := (hgrow.frozen_far ⟨w.heap.size + 2, 0, none⟩ (by simp; omega) hne).trans HF.out; have hcc := (hgrow.cell_far ⟨w.heap.size + 2, 0, none⟩ (by simp; omega) hne).trans HC.out))
      all_goals
        have HS := FloorRel.step (c := 31) HR.out hown1 ⟨hgrow.os, hgrow.tape, hgrow.output, hgrow.size, hgrow.block⟩ hat
        go_wp2_with fail
        go_roundw
        case rel => exact ⟨_, zs ++ [31], by simp; omega, by simp, HS, by (unfold Hid; rw [List.length_append, List.length_singleton, List.replicate_succ', ← HZ.out])⟩
        case measure => simp [intOf]; omega
    · have hpos : 0 < zs.length := by omega
      obtain ⟨g, cap, rfl, hlo, hgl⟩ := World.ownsRow.form hr.2.2.1 hpos
      have hE := Lib.hid (floor_end (c := 31 - 1) hr)
      have hR := Lib.hid (floor_cell (u := .int .i64 (31 - 1)) (b := .slice (some ⟨g, 0, none⟩) zs.length cap) hr)
      obtain ⟨r1, r2, r3, r4, r5, r6⟩ := hr
      have hc2 : wr.cell? ⟨w.heap.size + 1 + 1, 0, none⟩ = some (.slice (some ⟨g, 0, none⟩) zs.length cap) := r2.cell (i := 0) (by omega)
      have hc0 := r1.cell (i := 0) (by omega)
      have hf0 := r1.frozen 0
      have hcg : wr.cell? ⟨g, 0, none⟩ = some (.int .i64 31) := by
        rw [World.ownsRow.cellAt r3 0 (by omega), HZ.out, List.getElem?_map, List.getElem?_replicate, if_pos hpos]; rfl
      have hfg := World.ownsRow.frozenAt r3 0
      have hpi : (0 : Int) < (zs.length : Int) := by omega
      have hne1 : g ≠ w.heap.size + 1 + 1 := fun e => r4 (by simp [Value.ownBlock, e])
      have hne0 : g ≠ w.heap.size := by omega
      have HL : Hid (zs.length = 2 * n - 1) := by unfold Hid; omega
      clear r1 r2 r3 r4
      have HE := Lib.hid (floor_rows 31 n h1 zs HZ.out HL.out)
      go_wp2_with fail
      refine bodyPost_ret (v := .agg #[.slice (some ⟨g, 0, none⟩) zs.length cap]) (by have hR' := hR.out; simp only [Int.reduceSub] at hR'; simp [results, Try.results51, go_sem, hR']) rfl ?_
      have hE2 := hE.out
      rw [HE.out] at hE2
      exact hE2

set_option maxRecDepth 100000 in
set_option maxHeartbeats 2000000 in
theorem TreeFloor_at4 (n : Nat) (h1 : 1 ≤ n) (h4 : n ≤ 4) (w : World) :
    Calls Try.prog 51 #[.int .i64 4, .int .i64 n] w (RetFloor w (floorRows 127 n)) := by
  obtain ⟨i0, hi0, hz0, hz1, hz2⟩ := info_parts infoInt
  have hg : gridB 4 n = true := by
    simp only [gridB, Bool.and_eq_true, inB_iff]; omega
  have hw : ∀ z : Int, 0 ≤ z → z ≤ 300 → IntKind.i64.wrap z = z := fun z h1 h2 => IntWalk.i64_in z (by omega)
  have hs1 : ∀ W : World, Sem.run Try.prog (Op.shift BinOp.shl IntKind.i64 1 IntKind.i64 1) W = .ok (.int .i64 2) W := fun _ => by kernel_rfl
  have hs3 : ∀ W : World, Sem.run Try.prog (Op.shift BinOp.shl IntKind.i64 1 IntKind.i64 3) W = .ok (.int .i64 8) W := fun _ => by kernel_rfl
  have hs5 : ∀ W : World, Sem.run Try.prog (Op.shift BinOp.shl IntKind.i64 1 IntKind.i64 5) W = .ok (.int .i64 32) W := fun _ => by kernel_rfl
  have hs7 : ∀ W : World, Sem.run Try.prog (Op.shift BinOp.shl IntKind.i64 1 IntKind.i64 7) W = .ok (.int .i64 128) W := fun _ => by kernel_rfl
  go_enter Try.func51, Try.ntmps51
  go_wp2_with fail
  refine (GridOk_any _ _ _).mono ?_
  rintro e w1 ⟨rfl, rfl⟩
  go_wp2_with fail
  clear hg
  go_loopw [16] (fun s wr => ∃ (v : Value) (zs : List Int), zs.length ≤ 2 * n - 1 ∧ s = .int .i64 (zs.length : Int) ∧ FloorRel w wr v zs ∧ Hid (zs = List.replicate zs.length 127)) (fun s _ => 2 * n - 1 - (intOf s).toNat)
  case atStart => exact ⟨.slice (some ⟨w.heap.size + 1, 0, none⟩) 0 0, [], by simp, rfl, floor_start w, rfl⟩
  case round =>
    obtain ⟨v, zs, hk, rfl, hr, HZ⟩ := hrel
    by_cases hlt : zs.length < 2 * n - 1
    · obtain ⟨r1, r2, r3, r4, r5, r6⟩ := id hr
      have hcell := r2.cell (i := 0) (by omega)
      have hfr := r2.frozen 0
      have hne : some (w.heap.size + 2) ≠ v.ownBlock := fun e => r4 e.symm
      have R3 := Lib.hid r3
      have HC := Lib.hid ((r2.alloc (.cells #[.int .i64 127] 3)).cell (i := 0) (by omega))
      have hca : (wr.alloc (.cells #[.int .i64 127] 3)).cell? ⟨w.heap.size + 1 + 1, 0, none⟩ = some v := HC.out
      have hcb : wr.cell? ⟨w.heap.size + 1 + 1, 0, none⟩ = some v := hcell
      have HF := Lib.hid ((r2.alloc (.cells #[.int .i64 127] 3)).frozen 0)
      have HR := Lib.hid hr
      clear r1 r2 r3 hr
      go_wp2_with fail
      go_region_law ((refine step_append_lies _ (by rfl) _ _ _ (by rfl) (w.heap.size + 1) 3 i0 _ 1 8 Try.underlying31 hi0 hz0 hz1 hz2 rfl (by omega) v zs.length _ (by rfl) ((World.ownsRow.alloc R3.out _).drew) ⟨wr.heap.size, 0, none⟩ 1 1 [.int .i64 127] (by rfl) (by rfl) (World.news_of_block (cs := #[.int .i64 127]) (t := 3) (fr := (0, 0)) (heap_alloc_new wr _)) (by simp [Value.oneCell']) (by omega) (by unfold maxLen; omega) (by omega) (by simp; omega) (wr.heap.size + 1) (by simp) ?_; intro gg cap w1 hown1 hgrow hat hlt1; have hfz := (hgrow.frozen_far ⟨w.heap.size + 2, 0, none⟩ (by simp; omega) hne).trans HF.out; have hcc := (hgrow.cell_far ⟨w.heap.size + 2, 0, none⟩ (by simp; omega) hne).trans HC.out))
      all_goals
        have HS := FloorRel.step (c := 127) HR.out hown1 ⟨hgrow.os, hgrow.tape, hgrow.output, hgrow.size, hgrow.block⟩ hat
        go_wp2_with fail
        go_roundw
        case rel => exact ⟨_, zs ++ [127], by simp; omega, by simp, HS, by (unfold Hid; rw [List.length_append, List.length_singleton, List.replicate_succ', ← HZ.out])⟩
        case measure => simp [intOf]; omega
    · have hpos : 0 < zs.length := by omega
      obtain ⟨g, cap, rfl, hlo, hgl⟩ := World.ownsRow.form hr.2.2.1 hpos
      have hE := Lib.hid (floor_end (c := 127 - 1) hr)
      have hR := Lib.hid (floor_cell (u := .int .i64 (127 - 1)) (b := .slice (some ⟨g, 0, none⟩) zs.length cap) hr)
      obtain ⟨r1, r2, r3, r4, r5, r6⟩ := hr
      have hc2 : wr.cell? ⟨w.heap.size + 1 + 1, 0, none⟩ = some (.slice (some ⟨g, 0, none⟩) zs.length cap) := r2.cell (i := 0) (by omega)
      have hc0 := r1.cell (i := 0) (by omega)
      have hf0 := r1.frozen 0
      have hcg : wr.cell? ⟨g, 0, none⟩ = some (.int .i64 127) := by
        rw [World.ownsRow.cellAt r3 0 (by omega), HZ.out, List.getElem?_map, List.getElem?_replicate, if_pos hpos]; rfl
      have hfg := World.ownsRow.frozenAt r3 0
      have hpi : (0 : Int) < (zs.length : Int) := by omega
      have hne1 : g ≠ w.heap.size + 1 + 1 := fun e => r4 (by simp [Value.ownBlock, e])
      have hne0 : g ≠ w.heap.size := by omega
      have HL : Hid (zs.length = 2 * n - 1) := by unfold Hid; omega
      clear r1 r2 r3 r4
      have HE := Lib.hid (floor_rows 127 n h1 zs HZ.out HL.out)
      go_wp2_with fail
      refine bodyPost_ret (v := .agg #[.slice (some ⟨g, 0, none⟩) zs.length cap]) (by have hR' := hR.out; simp only [Int.reduceSub] at hR'; simp [results, Try.results51, go_sem, hR']) rfl ?_
      have hE2 := hE.out
      rw [HE.out] at hE2
      exact hE2

def floorZ (a b : Int) : List Int := if gridB a b then floorRows (if a = 1 then 1 else if a = 2 then 7 else if a = 3 then 31 else 127) b.toNat else []
theorem TreeFloor_any (a b : Int) (w : World) :
    Calls Try.prog 51 #[.int .i64 a, .int .i64 b] w (RetFloor w (floorZ a b)) := by
  cases hg : gridB a b
  · rw [show floorZ a b = [] from by rw [floorZ, hg]; rfl]
    go_enter Try.func51, Try.ntmps51
    go_wp2_with fail
    refine (GridOk_any _ _ _).mono ?_
    rintro e w1 ⟨rfl, rfl⟩
    go_wp2_with fail
    refine bodyPost_ret (v := .agg #[.slice none 0 0]) (by simp [results, Try.results51, go_sem]) rfl ?_
    refine ⟨.slice none 0 0, rfl, World.ownsRow_nil _ _ _ _, ?_⟩
    repeat (first | exact Below.refl _ _ | refine Below.setCell ?_ (by simp <;> omega) _ | refine Below.alloc ?_ (by simp <;> omega) _)
  · have h := hg
    simp only [gridB, Bool.and_eq_true, inB_iff] at h
    obtain ⟨⟨g1, g2⟩, g3, g4⟩ := h
    obtain ⟨n, rfl⟩ := Int.eq_ofNat_of_zero_le (show 0 ≤ b by omega)
    rcases (show a = 1 ∨ a = 2 ∨ a = 3 ∨ a = 4 by omega) with rfl | rfl | rfl | rfl
    · rw [show floorZ 1 n = floorRows 1 n from by rw [floorZ, hg]; rfl]; exact TreeFloor_at1 n (by omega) (by omega) w
    · rw [show floorZ 2 n = floorRows 7 n from by rw [floorZ, hg]; rfl]; exact TreeFloor_at2 n (by omega) (by omega) w
    · rw [show floorZ 3 n = floorRows 31 n from by rw [floorZ, hg]; rfl]; exact TreeFloor_at3 n (by omega) (by omega) w
    · rw [show floorZ 4 n = floorRows 127 n from by rw [floorZ, hg]; rfl]; exact TreeFloor_at4 n (by omega) (by omega) w
end Go.Proofs.Ytehnbalbpfmijaa
