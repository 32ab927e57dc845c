/- What the claim's walk rests on: parts ProfS, Lst2, SortS, FaultsS. -/
import Derived.Test.YtehnbalbpfmijaaDoorKa2
import Derived.Test.YtehnbalbpfmijaaDoorKa6
import Derived.Test.YtehnbalbpfmijaaDoorKa9
import Derived.Test.YtehnbalbpfmijaaDoorKa7
import Derived.Test.YtehnbalbpfmijaaDoorKa3
import Derived.StillTailTactics
namespace Go.Proofs.YtehnbalbpfmijaaDoor
open Go.RowKit
set_option linter.unusedVariables false

structure QB (w wr : World) (v : Value) (rows : List Int) (p1 gn : Nat) (zs : List Int) : Prop where
  er : wr.heap[p1]? = some (.cells #[v] 28 (0, 0))
  rn : Row256 wr gn zs
  big : Below w.heap.size w wr
  rd : ∃ B, B ≤ w.heap.size ∧ RdI wr B v rows
  l1 : w.heap.size ≤ p1
  ln : p1 < gn
structure QF (w wr : World) (v : Value) (rows : List Int) (p1 gn p7 gx x y : Nat) (zs nx : List Int) : Prop where
  er : wr.heap[p1]? = some (.cells #[v] 28 (0, 0))
  rn : Row256 wr gn zs
  ec : wr.heap[p7]? = some (.cells #[.int .i64 (x : Int), .int .i64 (y : Int)] 41 (0, 0))
  rx : Row256 wr gx nx
  big : Below w.heap.size w wr
  rd : ∃ B, B ≤ w.heap.size ∧ RdI wr B v rows
  l1 : w.heap.size ≤ p1
  n1 : gx ≠ p1
  nn : gx ≠ gn
  nc : gx ≠ p7
  lx : p1 < gx
section
variable {w wr w1 : World} {v : Value} {rows : List Int} {p1 gn p7 gx x y : Nat} {zs nx nx' : List Int}
theorem QB.below (h : QB w wr v rows p1 gn zs) (hb : Below wr.heap.size wr w1) : QB w w1 v rows p1 gn zs := by
  obtain ⟨B, hB, hr⟩ := h.rd
  exact ⟨blk_below h.er hb, h.rn.keep (hb.block _ (lt_of_block h.rn.1)), h.big.trans (hb.mono h.big.size), ⟨B, hB, hr.below (hb.mono (Nat.le_trans hB h.big.size))⟩, h.l1, h.ln⟩
theorem QB.set (h : QB w wr v rows p1 gn zs) (k : Nat) (z : Int) : QB w (wr.setCell ⟨gn, k, none⟩ (.int .i64 z)) v rows p1 gn (zs.set k z) := by
  obtain ⟨B, hB, hr⟩ := h.rd
  have hl := h.ln
  have hl1 := h.l1
  have hb : Below w.heap.size wr (wr.setCell ⟨gn, k, none⟩ (.int .i64 z)) := (Below.refl _ _).setCell (by show w.heap.size ≤ gn; omega) _
  exact ⟨(Below.heap_setCell _ _ _ _ (by show p1 ≠ gn; omega)).trans h.er, h.rn.set k z, h.big.trans hb, ⟨B, hB, hr.below (hb.mono hB)⟩, h.l1, h.ln⟩
theorem QF.below (h : QF w wr v rows p1 gn p7 gx x y zs nx) (hb : Below wr.heap.size wr w1) : QF w w1 v rows p1 gn p7 gx x y zs nx := by
  obtain ⟨B, hB, hr⟩ := h.rd
  exact ⟨blk_below h.er hb, h.rn.keep (hb.block _ (lt_of_block h.rn.1)), blk_below h.ec hb, h.rx.keep (hb.block _ (lt_of_block h.rx.1)), h.big.trans (hb.mono h.big.size), ⟨B, hB, hr.below (hb.mono (Nat.le_trans hB h.big.size))⟩, h.l1, h.n1, h.nn, h.nc, h.lx⟩
theorem QF.set (h : QF w wr v rows p1 gn p7 gx x y zs nx) (k : Nat) (z : Int) : QF w (wr.setCell ⟨gx, k, none⟩ (.int .i64 z)) v rows p1 gn p7 gx x y zs (nx.set k z) := by
  obtain ⟨B, hB, hr⟩ := h.rd
  have hk : ∀ j, gx ≠ j → (wr.setCell ⟨gx, k, none⟩ (.int .i64 z)).heap[j]? = wr.heap[j]? := fun j hj => Below.heap_setCell _ _ _ _ (Ne.symm hj)
  have hl := h.lx
  have hl1 := h.l1
  have hb : Below w.heap.size wr (wr.setCell ⟨gx, k, none⟩ (.int .i64 z)) := (Below.refl _ _).setCell (by show w.heap.size ≤ gx; omega) _
  exact ⟨(hk _ h.n1).trans h.er, h.rn.keep (hk _ h.nn), (hk _ h.nc).trans h.ec, h.rx.set k z, h.big.trans hb, ⟨B, hB, hr.below (hb.mono hB)⟩, h.l1, h.n1, h.nn, h.nc, h.lx⟩
theorem QF.cells (h : QF w wr v rows p1 gn p7 gx x y zs nx) : wr.cell? ⟨p1, 0, none⟩ = some v ∧ wr.cell? ⟨p7, 0, none⟩ = some (.int .i64 (x : Int)) ∧ wr.cell? ⟨p7, 1, none⟩ = some (.int .i64 (y : Int)) :=
  ⟨by rw [blk_cell h.er]; rfl, by rw [blk_cell h.ec]; rfl, by rw [blk_cell h.ec]; rfl⟩
end
theorem shl_q (x : Nat) (hx : x ≤ 7) : wrap64 ((2 : Int) ^ x) = ((2 ^ x : Nat) : Int) := by
  have h : (2 ^ x : Nat) ≤ 2 ^ 7 := Nat.pow_le_pow_right (by omega) hx
  have e : ((2 : Int) ^ x) = ((2 ^ x : Nat) : Int) := by simp
  rw [e]
  generalize (2 ^ x : Nat) = p at *
  simp at h
  unfold wrap64
  omega

set_option maxRecDepth 100000 in
set_option maxHeartbeats 8000000 in
theorem l07Count_yes (v : Value) (rows : List Int) (B : Nat) (w : World) (hr : RdI w B v rows) (hB : B ≤ w.heap.size) (hok : regOkB rows = true) :
    Calls Tryd.prog 32 #[.agg #[v]] w fun e w' => e = .returned (.int .i64 (profZ (setZ rows))) ∧ Below w.heap.size w w' := by
  obtain ⟨T, HT⟩ : ∃ T, Hid (setZ rows = T) := ⟨_, rfl⟩
  rw [HT.out]
  obtain ⟨pf, HPF⟩ : ∃ pf : Nat → List Int, Hid (pf = profTo T) := ⟨_, rfl⟩
  obtain ⟨z0, HZ0⟩ : ∃ z : List Int, Hid (z = zeros) := ⟨_, rfl⟩
  have HPS : Hid (∀ i, pf (i + 1) = stepTo (hasC T (i % 8) (i / 8)) (hasC T (i % 8) (i / 8 + 1)) (hasC T (i % 8 + 1) (i / 8)) (i % 8) (pf i) 256) := by rw [HPF.out]; exact fun i => rfl
  have HPW : Hid (∀ i, WOk (pf i)) := by rw [HPF.out]; exact WOk.prof T
  have HP00 : Hid (pf 0 = z0.set 0 1) := by rw [HPF.out, HZ0.out]; rfl
  have HFZ : Hid (∀ r, pf 64 = r → profZ T = el r 0) := by rw [HPF.out]; exact fun r h => by rw [← h]; rfl
  have HST0 : Hid (∀ (h b r : Bool) (x : Nat) (zs : List Int), stepTo h b r x zs 0 = z0) := by rw [HZ0.out]; exact fun _ _ _ _ _ => rfl
  have HZL : Hid (z0.length = 256) := by rw [HZ0.out]; exact zeros_len
  obtain ⟨res, HRES⟩ : ∃ r, Hid (profZ T = r) := ⟨_, rfl⟩
  rw [HRES.out] at HFZ ⊢
  have hmk : ∀ w : World, (Instr.makeSlice 26 (.int .i64 256) (.int .i64 256)).run Tryd.prog w = .ok (.slice (some ⟨w.heap.size, 0, none⟩) 256 256) (w.alloc (.cells (madeCells #[.int .i64 0] 256) 3)) := fun _ => by kernel_rfl
  rw [made256, ← HZ0.out] at hmk
  clear HPF HZ0 HRES
  have HR := Lib.hid hr
  obtain ⟨A, c, rfl, _, g2, _⟩ := hr
  unfold maxLen at g2
  obtain ⟨v, HV⟩ : ∃ v, Hid (v = Value.slice A rows.length c) := ⟨_, rfl⟩
  rw [← HV.out] at HR ⊢
  obtain ⟨W, hW, k0, k1, hb0⟩ := two_alloc w (.cells #[v] 28) (.cells (rwC z0) 3)
  have HQ0 : Hid (QB w W v rows w.heap.size (w.heap.size + 1) z0) := ⟨k0, ⟨k1, HZL.out⟩, hb0, ⟨B, hB, HR.out.below (hb0.mono hB)⟩, Nat.le_refl _, by omega⟩
  have cW := HQ0.out.rn.cell (k := 0) (by omega)
  have fW := HQ0.out.rn.free 0
  have HSW : Hid ((rwC z0).setIfInBounds 0 (.int .i64 1) = rwC (pf 0)) := by unfold Hid; rw [HP00.out]; exact rwC_set _ _ _
  obtain ⟨W1, hW1, j0, j1, jb⟩ := two_alloc w (.cells #[v] 28) (.cells (rwC (pf 0)) 3)
  have HQ1 : Hid (QB w W1 v rows w.heap.size (w.heap.size + 1) (pf 0)) := ⟨j0, ⟨j1, by rw [HP00.out, List.length_set]; exact HZL.out⟩, jb, ⟨B, hB, HR.out.below (jb.mono hB)⟩, Nat.le_refl _, by omega⟩
  have HWW := Lib.hid hW1
  rw [hW] at cW fW
  clear hW k0 k1 hb0 HR HV hW1 j0 j1 jb
  go_enter Tryd.func32, Tryd.ntmps32
  go_wp2_with fail
  rw [HSW.out, ← HWW.out]
  clear cW fW HQ0
  go_loopw [4, 5] (fun u s wr => ∃ (i gn : Nat), i ≤ 64 ∧ s = .int .i64 i ∧ u = .slice (some ⟨gn, 0, none⟩) 256 256 ∧ Hid (QB w wr v rows w.heap.size gn (pf i))) (fun _ s _ => 64 - (intOf s).toNat)
  case atStart => exact ⟨0, _, Nat.zero_le _, rfl, rfl, HQ1⟩
  case round =>
    obtain ⟨i, gn, hi, rfl, rfl, HQ⟩ := hrel
    by_cases hli : i < 64
    · have hti : decide ((i : Int) < 64) = true := by simp only [decide_eq_true_eq]; omega
      have HS := Lib.hid (HPS.out i)
      have HWO := Lib.hid (HPW.out i)
      have hx7 : i % 8 ≤ 7 := by omega
      have hy7 : i / 8 ≤ 7 := by omega
      have HXI : Hid ((i : Int) % 8 = ((i % 8 : Nat) : Int)) := by unfold Hid; omega
      go_wp2_with fail
      refine (CellAt_yes i (by omega) _).mono ?_
      rintro e w1 ⟨rfl, hb1⟩
      rw [HXI.out]
      have HQ1 := Lib.hid (HQ.out.below hb1)
      obtain ⟨zs, HZS⟩ : ∃ zs, Hid (pf i = zs) := ⟨_, rfl⟩
      obtain ⟨zs2, HZS2⟩ : ∃ zs, Hid (pf (i + 1) = zs) := ⟨_, rfl⟩
      rw [HZS.out] at HQ1 HS HWO
      rw [HZS2.out] at HS
      clear HXI
      generalize i % 8 = x at *
      generalize i / 8 = y at *
      clear hb1 HQ
      go_wp2_with fail
      obtain ⟨W2, hW2, q0, q1, hb2⟩ := two_alloc w1 (.cells #[.int .i64 (x : Int), .int .i64 (y : Int)] 41) (.cells (rwC z0) 3)
      rw [← hW2]
      have HF0 : Hid (QF w W2 v rows w.heap.size gn w1.heap.size (w1.heap.size + 1) x y zs z0) := by
        have h := HQ1.out.below hb2
        have l1 := lt_of_block HQ1.out.er
        have l2 := lt_of_block HQ1.out.rn.1
        have l3 := HQ1.out.big.size
        exact ⟨h.er, h.rn, q0, ⟨q1, HZL.out⟩, h.big, h.rd, Nat.le_refl _, by omega, by omega, by omega, by omega⟩
      clear hW2 q0 q1 hb2 HQ1
      generalize w1.heap.size = n1 at *
      obtain ⟨h, HH⟩ : ∃ h, Hid (hasC T x y = h) := ⟨_, rfl⟩
      obtain ⟨b, HB⟩ : ∃ h, Hid (hasC T x (y + 1) = h) := ⟨_, rfl⟩
      obtain ⟨r, HR⟩ : ∃ h, Hid (hasC T (x + 1) y = h) := ⟨_, rfl⟩
      rw [HH.out, HB.out, HR.out] at HS
      obtain ⟨st, HST⟩ : ∃ st : Nat → List Int, Hid (st = stepTo h b r x zs) := ⟨_, rfl⟩
      have HSIN : Hid (∀ k, st (k + 1) = inZ h b r x (el zs k) k (st k)) := by rw [HST.out]; exact fun k => rfl
      have HF3 : Hid (QF w W2 v rows w.heap.size gn n1 (n1 + 1) x y zs (st 0)) := by rw [HST.out, HST0.out]; exact HF0.out
      rw [← HST.out] at HS
      clear HST HF0
      have HH1 : Hid (hasB (setZ rows) x y = h) := by unfold Hid; rw [HT.out, ← HH.out]; simp [hasC, hx7, hy7]
      go_loopw [10] (fun s wr => ∃ k : Nat, k ≤ 256 ∧ s = .int .i64 k ∧ Hid (QF w wr v rows w.heap.size gn n1 (n1 + 1) x y zs (st k))) (fun s _ => 256 - (intOf s).toNat)
      case atStart => exact ⟨0, Nat.zero_le _, rfl, HF3⟩
      case round =>
        obtain ⟨k, hk, rfl, HF4⟩ := hrel
        obtain ⟨f1, f2, f3⟩ := HF4.out.cells
        by_cases hlt : k < 256
        · have ht : decide ((k : Int) < 256) = true := by simp only [decide_eq_true_eq]; omega
          have hk0 : (0 : Int) ≤ (k : Int) := by omega
          have hk1 : (k : Int) < 256 := by omega
          have cr := HF4.out.rn.cell hlt
          have HN := Lib.hid (HWO.out k)
          have HIN := Lib.hid (HSIN.out k)
          obtain ⟨b1, b2, b3, b4, b5⟩ := bits_at k x hlt hx7
          have hsh := bit_shr k x (by omega) hx7
          have HB3 := Lib.hid b3; have HB5 := Lib.hid b5
          clear b1 b2 b3 b4 b5
          generalize st k = nx at *
          generalize el zs k = n at *
          by_cases hn0 : n = 0
          · have t0 : (n == 0) = true := by simp [hn0]
            have HF5 : Hid (QF w wr v rows w.heap.size gn n1 (n1 + 1) x y zs (st (k + 1))) := by rw [HIN.out, inZ, if_pos hn0]; exact HF4.out
            clear hn0 hsh
            go_wp2_with fail
            go_roundw
            case rel => exact ⟨k + 1, by omega, by go_num, HF5⟩
            case measure => simp [intOf]; omega
          · have t0 : (n == 0) = false := by rw [beq_eq_false_iff_ne]; exact hn0
            cases hb : k.testBit x
            · rw [hb] at hsh
              cases h
              · have HX : Hid (st (k + 1) = putZ nx k n) := by unfold Hid; rw [HIN.out, inZ, if_neg hn0]; simp [hb]
                clear hn0
                go_wp2_with fail
                obtain ⟨B5, hB5, hr5⟩ := HF4.out.rd
                refine (l03Has_yes v rows B5 _ hr5 (Nat.le_trans hB5 HF4.out.big.size) hok x y (by omega) (by omega)).mono ?_
                rintro e w5 ⟨rfl, hb5⟩
                rw [HH1.out]
                clear hr5
                have HF5 := Lib.hid (HF4.out.below hb5)
                clear f1 f2 f3
                obtain ⟨f1, f2, f3⟩ := HF5.out.cells
                have cx := HF5.out.rx.cell (k := k) hlt
                have fx := HF5.out.rx.free (k)
                have HE : Hid (QF w (w5.setCell ⟨n1 + 1, k, none⟩ (.int .i64 (wrap64 (el nx (k) + n)))) v rows w.heap.size gn n1 (n1 + 1) x y zs (st (k + 1))) := by rw [HX.out]; exact HF5.out.set (k) _
                generalize el nx (k) = q at *
                go_wp2_with fail
                go_roundw
                case rel => exact ⟨k + 1, by omega, by go_num, HE⟩
                case measure => simp [intOf]; omega
              · have HX0 : Hid (st (k + 1) = if r && !k.testBit (x + 1) then putZ (if b then putZ nx (k ||| 2 ^ x) n else nx) (k ||| 2 ^ (x + 1)) n else if b then putZ nx (k ||| 2 ^ x) n else nx) := by unfold Hid; rw [HIN.out, inZ, if_neg hn0]; simp only [hb, if_true]; rfl
                clear hn0
                go_wp2_with fail
                obtain ⟨B5, hB5, hr5⟩ := HF4.out.rd
                refine (l03Has_yes v rows B5 _ hr5 (Nat.le_trans hB5 HF4.out.big.size) hok x y (by omega) (by omega)).mono ?_
                rintro e w5 ⟨rfl, hb5⟩
                rw [HH1.out]
                clear hr5
                have HF5 := Lib.hid (HF4.out.below hb5)
                clear f1 f2 f3
                obtain ⟨f1, f2, f3⟩ := HF5.out.cells
                go_wp2_with fail
                obtain ⟨w6, hw6, hk6, hb6⟩ := one_alloc w5 (.cells #[.int .i64 (x : Int), .int .i64 ((y : Int) + 1)] 41)
                rw [← hw6]
                have HL6 := Lib.hid (lt_of_block hk6)
                have HK6 := Lib.hid hk6
                clear hw6 hk6
                have HF6 := Lib.hid (HF5.out.below hb6)
                clear f1 f2 f3
                obtain ⟨f1, f2, f3⟩ := HF6.out.cells
                have g6a : w6.cell? ⟨w5.heap.size, 0, none⟩ = some (.int .i64 (x : Int)) := by rw [blk_cell HK6.out]; rfl
                have g6b : w6.cell? ⟨w5.heap.size, 1, none⟩ = some (.int .i64 ((y : Int) + 1)) := by rw [blk_cell HK6.out]; rfl
                clear hb6
                have HY1 : Hid ((y : Int) + 1 = ((y + 1 : Nat) : Int)) := by unfold Hid; omega
                go_wp2_with fail
                by_cases hy8 : y + 1 ≤ 7
                · have hs : spotB 7 x ((y : Int) + 1) = true := (spotB_iff _ _ _).2 ⟨by omega, by omega⟩
                  refine (specCellOk_any (x : Int) ((y : Int) + 1) _).mono ?_
                  rintro e w7 ⟨rfl, hb7⟩
                  rw [hs]
                  clear g6a g6b
                  have HK7 := Lib.hid (blk_below HK6.out hb7)
                  have g7a : w7.cell? ⟨w5.heap.size, 0, none⟩ = some (.int .i64 (x : Int)) := by rw [blk_cell HK7.out]; rfl
                  have g7b : w7.cell? ⟨w5.heap.size, 1, none⟩ = some (.int .i64 ((y : Int) + 1)) := by rw [blk_cell HK7.out]; rfl
                  have HF7 := Lib.hid (HF6.out.below hb7)
                  clear f1 f2 f3
                  obtain ⟨f1, f2, f3⟩ := HF7.out.cells
                  have HB1 : Hid (hasB (setZ rows) x (y + 1) = b) := by unfold Hid; rw [HT.out, ← HB.out]; simp [hasC, hx7, hy8]
                  go_wp2_with fail
                  rw [HY1.out]
                  obtain ⟨B8, hB8, hr8⟩ := HF7.out.rd
                  refine (l03Has_yes v rows B8 _ hr8 (Nat.le_trans hB8 HF7.out.big.size) hok x (y + 1) (by omega) (by omega)).mono ?_
                  rintro e w8 ⟨rfl, hb8⟩
                  rw [HB1.out]
                  clear hr8
                  have HF8 := Lib.hid (HF7.out.below hb8)
                  clear f1 f2 f3
                  obtain ⟨f1, f2, f3⟩ := HF8.out.cells
                  clear g7a g7b
                  cases b
                  · skip
                    have HX0 : Hid (st (k + 1) = if r && !k.testBit (x + 1) then putZ nx (k ||| 2 ^ (x + 1)) n else nx) := HX0.out
                    go_wp2_with fail
                    obtain ⟨w9, hw9, hk9, hb9⟩ := one_alloc w8 (.cells #[.int .i64 ((x : Int) + 1), .int .i64 (y : Int)] 41)
                    rw [← hw9]
                    have HL9 := Lib.hid (lt_of_block hk9)
                    have HK9 := Lib.hid hk9
                    clear hw9 hk9
                    have HF9 := Lib.hid (HF8.out.below hb9)
                    clear f1 f2 f3
                    obtain ⟨f1, f2, f3⟩ := HF9.out.cells
                    have g9a : w9.cell? ⟨w8.heap.size, 0, none⟩ = some (.int .i64 ((x : Int) + 1)) := by rw [blk_cell HK9.out]; rfl
                    have g9b : w9.cell? ⟨w8.heap.size, 1, none⟩ = some (.int .i64 (y : Int)) := by rw [blk_cell HK9.out]; rfl
                    clear hb9
                    have HX1 : Hid ((x : Int) + 1 = ((x + 1 : Nat) : Int)) := by unfold Hid; omega
                    go_wp2_with fail
                    by_cases hx8 : x + 1 ≤ 7
                    · have hs2 : spotB 7 ((x : Int) + 1) y = true := (spotB_iff _ _ _).2 ⟨by omega, by omega⟩
                      refine (specCellOk_any ((x : Int) + 1) (y : Int) _).mono ?_
                      rintro e w10 ⟨rfl, hb10⟩
                      rw [hs2]
                      clear g9a g9b
                      have HK10 := Lib.hid (blk_below HK9.out hb10)
                      have g10a : w10.cell? ⟨w8.heap.size, 0, none⟩ = some (.int .i64 ((x : Int) + 1)) := by rw [blk_cell HK10.out]; rfl
                      have g10b : w10.cell? ⟨w8.heap.size, 1, none⟩ = some (.int .i64 (y : Int)) := by rw [blk_cell HK10.out]; rfl
                      have HF10 := Lib.hid (HF9.out.below hb10)
                      clear f1 f2 f3
                      obtain ⟨f1, f2, f3⟩ := HF10.out.cells
                      have HR1 : Hid (hasB (setZ rows) (x + 1) y = r) := by unfold Hid; rw [HT.out, ← HR.out]; simp [hasC, hx8, hy7]
                      go_wp2_with fail
                      rw [HX1.out]
                      obtain ⟨B11, hB11, hr11⟩ := HF10.out.rd
                      refine (l03Has_yes v rows B11 _ hr11 (Nat.le_trans hB11 HF10.out.big.size) hok (x + 1) y (by omega) (by omega)).mono ?_
                      rintro e w11 ⟨rfl, hb11⟩
                      rw [HR1.out]
                      clear hr11
                      have HF11 := Lib.hid (HF10.out.below hb11)
                      clear f1 f2 f3
                      obtain ⟨f1, f2, f3⟩ := HF11.out.cells
                      clear g10a g10b
                      cases r
                      · have HE : Hid (QF w w11 v rows w.heap.size gn n1 (n1 + 1) x y zs (st (k + 1))) := by rw [HX0.out]; exact HF11.out
                        go_wp2_with fail
                        go_roundw
                        case rel => exact ⟨k + 1, by omega, by go_num, HE⟩
                        case measure => simp [intOf]; omega
                      · obtain ⟨_, _, z3, z4, z5⟩ := bits_at k (x + 1) hlt hx8
                        cases hb2 : k.testBit (x + 1)
                        · rw [hb2] at z4 HX0
                          have z4' : (bits .and .i64 ((k : Int) / 2 ^ (x + 1)) 1 == 0) = true := by rw [show (2 : Int) ^ (x + 1) = ((2 ^ (x + 1) : Nat) : Int) by simp, z4]; rfl
                          have HZ3 := Lib.hid z3
                          have HZ5 := Lib.hid z5
                          clear z3 z4 z5
                          obtain ⟨j, HJ⟩ : ∃ j : Nat, Hid (k ||| 2 ^ (x + 1) = j) := ⟨_, rfl⟩
                          have hj2 : j < 256 := by rw [← HJ.out]; exact HZ5.out
                          have hji : bits .or .i64 (k : Int) (wrap64 (2 ^ (x + 1))) = (j : Int) := by rw [← HJ.out]; exact (by rw [shl_q _ hx8]; exact HZ3.out)
                          have hji2 : bits .or .i64 (k : Int) (IntKind.i64.wrap (2 ^ (x + 1))) = (j : Int) := by rw [IntWalk.i64_left]; exact hji
                          have hxw : IntKind.i64.wrap ((x : Int) + 1) = (x : Int) + 1 := IntWalk.i64_in _ (by omega)
                          have hj0 : (0 : Int) ≤ (j : Int) := by omega
                          have hj1 : (j : Int) < 256 := by omega
                          rw [HJ.out] at HX0
                          obtain ⟨q, HQQ⟩ : ∃ q, Hid (el nx j = q) := ⟨_, rfl⟩
                          obtain ⟨s9, HS9⟩ : ∃ s, Hid (wrap64 (q + n) = s) := ⟨_, rfl⟩
                          have hqw : wrap64 (q + n) = s9 := HS9.out
                          have hqw2 : IntKind.i64.wrap (q + n) = s9 := by rw [IntWalk.i64_left]; exact HS9.out
                          have cx := HF11.out.rx.cell (k := j) hj2
                          rw [HQQ.out] at cx
                          go_wp2_with fail
                          go_still_tail 17, (by kernel_rfl)
                          change wpList _ _ _ _ _ w11.drew
                          have HFD := Lib.hid (HF11.out.below (Below.refl w11.heap.size w11).drew)
                          have fx := HFD.out.rx.free j
                          have cx' := HFD.out.rx.cell (k := j) hj2
                          rw [HQQ.out] at cx'
                          obtain ⟨w12, HW12⟩ : ∃ W, Hid (W = w11.drew.setCell ⟨n1 + 1, j, none⟩ (.int .i64 s9)) := ⟨_, rfl⟩
                          have HF12 : Hid (QF w w12 v rows w.heap.size gn n1 (n1 + 1) x y zs (putZ nx j n)) := by
                            have h9 := HFD.out.set j (wrap64 (el nx j + n))
                            rw [HW12.out, ← HS9.out, ← HQQ.out]
                            exact h9
                          clear f1 f2 f3 cx
                          generalize w11.drew = wD at *
                          clear hqw hqw2 hji hji2 hxw
                          have HE : Hid (QF w w12 v rows w.heap.size gn n1 (n1 + 1) x y zs (st (k + 1))) := by rw [HX0.out]; exact HF12.out
                          rw [HW12.out] at HE
                          go_wp2_with fail
                          go_roundw
                          case rel => exact ⟨k + 1, by omega, by go_num, HE⟩
                          case measure => simp [intOf]; omega
                        · rw [hb2] at z4 HX0
                          have z4' : (bits .and .i64 ((k : Int) / 2 ^ (x + 1)) 1 == 0) = false := by rw [show (2 : Int) ^ (x + 1) = ((2 ^ (x + 1) : Nat) : Int) by simp, z4]; rfl
                          clear z3 z4 z5
                          have HE : Hid (QF w w11 v rows w.heap.size gn n1 (n1 + 1) x y zs (st (k + 1))) := by rw [HX0.out]; exact HF11.out
                          go_wp2_with fail
                          go_roundw
                          case rel => exact ⟨k + 1, by omega, by go_num, HE⟩
                          case measure => simp [intOf]; omega
                    · have hs2 : spotB 7 ((x : Int) + 1) y = false := by
                        cases hs : spotB 7 ((x : Int) + 1) y
                        · rfl
                        · have := (spotB_iff _ _ _).1 hs; omega
                      have hr0 : r = false := by rw [← HR.out]; simp [hasC, hx8]
                      subst hr0
                      refine (specCellOk_any ((x : Int) + 1) (y : Int) _).mono ?_
                      rintro e w10 ⟨rfl, hb10⟩
                      rw [hs2]
                      clear g9a g9b
                      have HK10 := Lib.hid (blk_below HK9.out hb10)
                      have g10a : w10.cell? ⟨w8.heap.size, 0, none⟩ = some (.int .i64 ((x : Int) + 1)) := by rw [blk_cell HK10.out]; rfl
                      have g10b : w10.cell? ⟨w8.heap.size, 1, none⟩ = some (.int .i64 (y : Int)) := by rw [blk_cell HK10.out]; rfl
                      have HF10 := Lib.hid (HF9.out.below hb10)
                      clear f1 f2 f3
                      obtain ⟨f1, f2, f3⟩ := HF10.out.cells
                      have HE : Hid (QF w w10 v rows w.heap.size gn n1 (n1 + 1) x y zs (st (k + 1))) := by rw [HX0.out]; exact HF10.out
                      go_wp2_with fail
                      go_roundw
                      case rel => exact ⟨k + 1, by omega, by go_num, HE⟩
                      case measure => simp [intOf]; omega
                  · skip
                    have HX9 : Hid (st (k + 1) = if r && !k.testBit (x + 1) then putZ (putZ nx (k ||| 2 ^ x) n) (k ||| 2 ^ (x + 1)) n else putZ nx (k ||| 2 ^ x) n) := HX0.out
                    clear HX0
                    have HX0 := HX9
                    clear HX9
                    obtain ⟨jb, HJb⟩ : ∃ jb : Nat, Hid (k ||| 2 ^ x = jb) := ⟨_, rfl⟩
                    have hj2b : jb < 256 := by rw [← HJb.out]; exact HB5.out
                    have hji : bits .or .i64 (k : Int) (wrap64 (2 ^ x)) = (jb : Int) := by rw [← HJb.out]; exact (by rw [shl_q _ hx7]; exact HB3.out)
                    have hji2 : bits .or .i64 (k : Int) (IntKind.i64.wrap (2 ^ x)) = (jb : Int) := by rw [IntWalk.i64_left]; exact hji
                    have hxw : IntKind.i64.wrap ((x : Int) + 1) = (x : Int) + 1 := IntWalk.i64_in _ (by omega)
                    have hj0b : (0 : Int) ≤ (jb : Int) := by omega
                    have hj1b : (jb : Int) < 256 := by omega
                    rw [HJb.out] at HX0
                    obtain ⟨qb, HQQb⟩ : ∃ qb, Hid (el nx jb = qb) := ⟨_, rfl⟩
                    obtain ⟨sb9, HS9b⟩ : ∃ s, Hid (wrap64 (qb + n) = s) := ⟨_, rfl⟩
                    have hqw : wrap64 (qb + n) = sb9 := HS9b.out
                    have hqw2 : IntKind.i64.wrap (qb + n) = sb9 := by rw [IntWalk.i64_left]; exact HS9b.out
                    have cx := HF8.out.rx.cell (k := jb) hj2b
                    rw [HQQb.out] at cx
                    go_wp2_with fail
                    go_still_tail 15, (by kernel_rfl)
                    change wpList _ _ _ _ _ w8.drew
                    have HFDb := Lib.hid (HF8.out.below (Below.refl w8.heap.size w8).drew)
                    have fx := HFDb.out.rx.free jb
                    have cx' := HFDb.out.rx.cell (k := jb) hj2b
                    rw [HQQb.out] at cx'
                    obtain ⟨w9, HW9⟩ : ∃ W, Hid (W = w8.drew.setCell ⟨n1 + 1, jb, none⟩ (.int .i64 sb9)) := ⟨_, rfl⟩
                    have HF9 : Hid (QF w w9 v rows w.heap.size gn n1 (n1 + 1) x y zs (putZ nx jb n)) := by
                      have h9 := HFDb.out.set jb (wrap64 (el nx jb + n))
                      rw [HW9.out, ← HS9b.out, ← HQQb.out]
                      exact h9
                    clear f1 f2 f3 cx
                    generalize w8.drew = wDb at *
                    clear hqw hqw2 hji hji2 hxw
                    go_upto_region 27 with (fail)
                    rw [← HW9.out]
                    obtain ⟨f1, f2, f3⟩ := HF9.out.cells
                    clear fx cx'
                    go_wp2_with fail
                    obtain ⟨w10, hw10, hk10, hb10⟩ := one_alloc w9 (.cells #[.int .i64 ((x : Int) + 1), .int .i64 (y : Int)] 41)
                    rw [← hw10]
                    have HL10 := Lib.hid (lt_of_block hk10)
                    have HK10 := Lib.hid hk10
                    clear hw10 hk10
                    have HF10 := Lib.hid (HF9.out.below hb10)
                    clear f1 f2 f3
                    obtain ⟨f1, f2, f3⟩ := HF10.out.cells
                    have g10a : w10.cell? ⟨w9.heap.size, 0, none⟩ = some (.int .i64 ((x : Int) + 1)) := by rw [blk_cell HK10.out]; rfl
                    have g10b : w10.cell? ⟨w9.heap.size, 1, none⟩ = some (.int .i64 (y : Int)) := by rw [blk_cell HK10.out]; rfl
                    clear hb10
                    have HX1 : Hid ((x : Int) + 1 = ((x + 1 : Nat) : Int)) := by unfold Hid; omega
                    go_wp2_with fail
                    by_cases hx8 : x + 1 ≤ 7
                    · have hs2 : spotB 7 ((x : Int) + 1) y = true := (spotB_iff _ _ _).2 ⟨by omega, by omega⟩
                      refine (specCellOk_any ((x : Int) + 1) (y : Int) _).mono ?_
                      rintro e w11 ⟨rfl, hb11⟩
                      rw [hs2]
                      clear g10a g10b
                      have HK11 := Lib.hid (blk_below HK10.out hb11)
                      have g11a : w11.cell? ⟨w9.heap.size, 0, none⟩ = some (.int .i64 ((x : Int) + 1)) := by rw [blk_cell HK11.out]; rfl
                      have g11b : w11.cell? ⟨w9.heap.size, 1, none⟩ = some (.int .i64 (y : Int)) := by rw [blk_cell HK11.out]; rfl
                      have HF11 := Lib.hid (HF10.out.below hb11)
                      clear f1 f2 f3
                      obtain ⟨f1, f2, f3⟩ := HF11.out.cells
                      have HR1 : Hid (hasB (setZ rows) (x + 1) y = r) := by unfold Hid; rw [HT.out, ← HR.out]; simp [hasC, hx8, hy7]
                      go_wp2_with fail
                      rw [HX1.out]
                      obtain ⟨B12, hB12, hr12⟩ := HF11.out.rd
                      refine (l03Has_yes v rows B12 _ hr12 (Nat.le_trans hB12 HF11.out.big.size) hok (x + 1) y (by omega) (by omega)).mono ?_
                      rintro e w12 ⟨rfl, hb12⟩
                      rw [HR1.out]
                      clear hr12
                      have HF12 := Lib.hid (HF11.out.below hb12)
                      clear f1 f2 f3
                      obtain ⟨f1, f2, f3⟩ := HF12.out.cells
                      clear g11a g11b
                      cases r
                      · have HE : Hid (QF w w12 v rows w.heap.size gn n1 (n1 + 1) x y zs (st (k + 1))) := by rw [HX0.out]; exact HF12.out
                        go_wp2_with fail
                        go_roundw
                        case rel => exact ⟨k + 1, by omega, by go_num, HE⟩
                        case measure => simp [intOf]; omega
                      · obtain ⟨_, _, z3, z4, z5⟩ := bits_at k (x + 1) hlt hx8
                        cases hb2 : k.testBit (x + 1)
                        · rw [hb2] at z4 HX0
                          have z4' : (bits .and .i64 ((k : Int) / 2 ^ (x + 1)) 1 == 0) = true := by rw [show (2 : Int) ^ (x + 1) = ((2 ^ (x + 1) : Nat) : Int) by simp, z4]; rfl
                          have HZ3 := Lib.hid z3
                          have HZ5 := Lib.hid z5
                          clear z3 z4 z5
                          obtain ⟨j, HJ⟩ : ∃ j : Nat, Hid (k ||| 2 ^ (x + 1) = j) := ⟨_, rfl⟩
                          have hj2 : j < 256 := by rw [← HJ.out]; exact HZ5.out
                          have hji : bits .or .i64 (k : Int) (wrap64 (2 ^ (x + 1))) = (j : Int) := by rw [← HJ.out]; exact (by rw [shl_q _ hx8]; exact HZ3.out)
                          have hji2 : bits .or .i64 (k : Int) (IntKind.i64.wrap (2 ^ (x + 1))) = (j : Int) := by rw [IntWalk.i64_left]; exact hji
                          have hxw : IntKind.i64.wrap ((x : Int) + 1) = (x : Int) + 1 := IntWalk.i64_in _ (by omega)
                          have hj0 : (0 : Int) ≤ (j : Int) := by omega
                          have hj1 : (j : Int) < 256 := by omega
                          rw [HJ.out] at HX0
                          obtain ⟨q, HQQ⟩ : ∃ q, Hid (el (putZ nx jb n) j = q) := ⟨_, rfl⟩
                          obtain ⟨s9, HS9⟩ : ∃ s, Hid (wrap64 (q + n) = s) := ⟨_, rfl⟩
                          have hqw : wrap64 (q + n) = s9 := HS9.out
                          have hqw2 : IntKind.i64.wrap (q + n) = s9 := by rw [IntWalk.i64_left]; exact HS9.out
                          have cx := HF12.out.rx.cell (k := j) hj2
                          rw [HQQ.out] at cx
                          go_wp2_with fail
                          go_still_tail 17, (by kernel_rfl)
                          change wpList _ _ _ _ _ w12.drew
                          have HFD := Lib.hid (HF12.out.below (Below.refl w12.heap.size w12).drew)
                          have fx := HFD.out.rx.free j
                          have cx' := HFD.out.rx.cell (k := j) hj2
                          rw [HQQ.out] at cx'
                          obtain ⟨w13, HW13⟩ : ∃ W, Hid (W = w12.drew.setCell ⟨n1 + 1, j, none⟩ (.int .i64 s9)) := ⟨_, rfl⟩
                          have HF13 : Hid (QF w w13 v rows w.heap.size gn n1 (n1 + 1) x y zs (putZ (putZ nx jb n) j n)) := by
                            have h9 := HFD.out.set j (wrap64 (el (putZ nx jb n) j + n))
                            rw [HW13.out, ← HS9.out, ← HQQ.out]
                            exact h9
                          clear f1 f2 f3 cx
                          generalize w12.drew = wD at *
                          clear hqw hqw2 hji hji2 hxw
                          have HE : Hid (QF w w13 v rows w.heap.size gn n1 (n1 + 1) x y zs (st (k + 1))) := by rw [HX0.out]; exact HF13.out
                          rw [HW13.out] at HE
                          go_wp2_with fail
                          go_roundw
                          case rel => exact ⟨k + 1, by omega, by go_num, HE⟩
                          case measure => simp [intOf]; omega
                        · rw [hb2] at z4 HX0
                          have z4' : (bits .and .i64 ((k : Int) / 2 ^ (x + 1)) 1 == 0) = false := by rw [show (2 : Int) ^ (x + 1) = ((2 ^ (x + 1) : Nat) : Int) by simp, z4]; rfl
                          clear z3 z4 z5
                          have HE : Hid (QF w w12 v rows w.heap.size gn n1 (n1 + 1) x y zs (st (k + 1))) := by rw [HX0.out]; exact HF12.out
                          go_wp2_with fail
                          go_roundw
                          case rel => exact ⟨k + 1, by omega, by go_num, HE⟩
                          case measure => simp [intOf]; omega
                    · have hs2 : spotB 7 ((x : Int) + 1) y = false := by
                        cases hs : spotB 7 ((x : Int) + 1) y
                        · rfl
                        · have := (spotB_iff _ _ _).1 hs; omega
                      have hr0 : r = false := by rw [← HR.out]; simp [hasC, hx8]
                      subst hr0
                      refine (specCellOk_any ((x : Int) + 1) (y : Int) _).mono ?_
                      rintro e w11 ⟨rfl, hb11⟩
                      rw [hs2]
                      clear g10a g10b
                      have HK11 := Lib.hid (blk_below HK10.out hb11)
                      have g11a : w11.cell? ⟨w9.heap.size, 0, none⟩ = some (.int .i64 ((x : Int) + 1)) := by rw [blk_cell HK11.out]; rfl
                      have g11b : w11.cell? ⟨w9.heap.size, 1, none⟩ = some (.int .i64 (y : Int)) := by rw [blk_cell HK11.out]; rfl
                      have HF11 := Lib.hid (HF10.out.below hb11)
                      clear f1 f2 f3
                      obtain ⟨f1, f2, f3⟩ := HF11.out.cells
                      have HE : Hid (QF w w11 v rows w.heap.size gn n1 (n1 + 1) x y zs (st (k + 1))) := by rw [HX0.out]; exact HF11.out
                      go_wp2_with fail
                      go_roundw
                      case rel => exact ⟨k + 1, by omega, by go_num, HE⟩
                      case measure => simp [intOf]; omega
                · have hs : spotB 7 x ((y : Int) + 1) = false := by
                    cases hs : spotB 7 x ((y : Int) + 1)
                    · rfl
                    · have := (spotB_iff _ _ _).1 hs; omega
                  have hb0 : b = false := by rw [← HB.out]; simp [hasC, hy8]
                  subst hb0
                  refine (specCellOk_any (x : Int) ((y : Int) + 1) _).mono ?_
                  rintro e w7 ⟨rfl, hb7⟩
                  rw [hs]
                  clear g6a g6b
                  have HK7 := Lib.hid (blk_below HK6.out hb7)
                  have g7a : w7.cell? ⟨w5.heap.size, 0, none⟩ = some (.int .i64 (x : Int)) := by rw [blk_cell HK7.out]; rfl
                  have g7b : w7.cell? ⟨w5.heap.size, 1, none⟩ = some (.int .i64 ((y : Int) + 1)) := by rw [blk_cell HK7.out]; rfl
                  have HF7 := Lib.hid (HF6.out.below hb7)
                  clear f1 f2 f3
                  obtain ⟨f1, f2, f3⟩ := HF7.out.cells
                  clear g7a g7b
                  have HX0 : Hid (st (k + 1) = if r && !k.testBit (x + 1) then putZ nx (k ||| 2 ^ (x + 1)) n else nx) := HX0.out
                  go_wp2_with fail
                  obtain ⟨w8, hw8, hk8, hb8⟩ := one_alloc w7 (.cells #[.int .i64 ((x : Int) + 1), .int .i64 (y : Int)] 41)
                  rw [← hw8]
                  have HL8 := Lib.hid (lt_of_block hk8)
                  have HK8 := Lib.hid hk8
                  clear hw8 hk8
                  have HF8 := Lib.hid (HF7.out.below hb8)
                  clear f1 f2 f3
                  obtain ⟨f1, f2, f3⟩ := HF8.out.cells
                  have g8a : w8.cell? ⟨w7.heap.size, 0, none⟩ = some (.int .i64 ((x : Int) + 1)) := by rw [blk_cell HK8.out]; rfl
                  have g8b : w8.cell? ⟨w7.heap.size, 1, none⟩ = some (.int .i64 (y : Int)) := by rw [blk_cell HK8.out]; rfl
                  clear hb8
                  have HX1 : Hid ((x : Int) + 1 = ((x + 1 : Nat) : Int)) := by unfold Hid; omega
                  go_wp2_with fail
                  by_cases hx8 : x + 1 ≤ 7
                  · have hs2 : spotB 7 ((x : Int) + 1) y = true := (spotB_iff _ _ _).2 ⟨by omega, by omega⟩
                    refine (specCellOk_any ((x : Int) + 1) (y : Int) _).mono ?_
                    rintro e w9 ⟨rfl, hb9⟩
                    rw [hs2]
                    clear g8a g8b
                    have HK9 := Lib.hid (blk_below HK8.out hb9)
                    have g9a : w9.cell? ⟨w7.heap.size, 0, none⟩ = some (.int .i64 ((x : Int) + 1)) := by rw [blk_cell HK9.out]; rfl
                    have g9b : w9.cell? ⟨w7.heap.size, 1, none⟩ = some (.int .i64 (y : Int)) := by rw [blk_cell HK9.out]; rfl
                    have HF9 := Lib.hid (HF8.out.below hb9)
                    clear f1 f2 f3
                    obtain ⟨f1, f2, f3⟩ := HF9.out.cells
                    have HR1 : Hid (hasB (setZ rows) (x + 1) y = r) := by unfold Hid; rw [HT.out, ← HR.out]; simp [hasC, hx8, hy7]
                    go_wp2_with fail
                    rw [HX1.out]
                    obtain ⟨B10, hB10, hr10⟩ := HF9.out.rd
                    refine (l03Has_yes v rows B10 _ hr10 (Nat.le_trans hB10 HF9.out.big.size) hok (x + 1) y (by omega) (by omega)).mono ?_
                    rintro e w10 ⟨rfl, hb10⟩
                    rw [HR1.out]
                    clear hr10
                    have HF10 := Lib.hid (HF9.out.below hb10)
                    clear f1 f2 f3
                    obtain ⟨f1, f2, f3⟩ := HF10.out.cells
                    clear g9a g9b
                    cases r
                    · have HE : Hid (QF w w10 v rows w.heap.size gn n1 (n1 + 1) x y zs (st (k + 1))) := by rw [HX0.out]; exact HF10.out
                      go_wp2_with fail
                      go_roundw
                      case rel => exact ⟨k + 1, by omega, by go_num, HE⟩
                      case measure => simp [intOf]; omega
                    · obtain ⟨_, _, z3, z4, z5⟩ := bits_at k (x + 1) hlt hx8
                      cases hb2 : k.testBit (x + 1)
                      · rw [hb2] at z4 HX0
                        have z4' : (bits .and .i64 ((k : Int) / 2 ^ (x + 1)) 1 == 0) = true := by rw [show (2 : Int) ^ (x + 1) = ((2 ^ (x + 1) : Nat) : Int) by simp, z4]; rfl
                        have HZ3 := Lib.hid z3
                        have HZ5 := Lib.hid z5
                        clear z3 z4 z5
                        obtain ⟨j, HJ⟩ : ∃ j : Nat, Hid (k ||| 2 ^ (x + 1) = j) := ⟨_, rfl⟩
                        have hj2 : j < 256 := by rw [← HJ.out]; exact HZ5.out
                        have hji : bits .or .i64 (k : Int) (wrap64 (2 ^ (x + 1))) = (j : Int) := by rw [← HJ.out]; exact (by rw [shl_q _ hx8]; exact HZ3.out)
                        have hji2 : bits .or .i64 (k : Int) (IntKind.i64.wrap (2 ^ (x + 1))) = (j : Int) := by rw [IntWalk.i64_left]; exact hji
                        have hxw : IntKind.i64.wrap ((x : Int) + 1) = (x : Int) + 1 := IntWalk.i64_in _ (by omega)
                        have hj0 : (0 : Int) ≤ (j : Int) := by omega
                        have hj1 : (j : Int) < 256 := by omega
                        rw [HJ.out] at HX0
                        obtain ⟨q, HQQ⟩ : ∃ q, Hid (el nx j = q) := ⟨_, rfl⟩
                        obtain ⟨s9, HS9⟩ : ∃ s, Hid (wrap64 (q + n) = s) := ⟨_, rfl⟩
                        have hqw : wrap64 (q + n) = s9 := HS9.out
                        have hqw2 : IntKind.i64.wrap (q + n) = s9 := by rw [IntWalk.i64_left]; exact HS9.out
                        have cx := HF10.out.rx.cell (k := j) hj2
                        rw [HQQ.out] at cx
                        go_wp2_with fail
                        go_still_tail 17, (by kernel_rfl)
                        change wpList _ _ _ _ _ w10.drew
                        have HFD := Lib.hid (HF10.out.below (Below.refl w10.heap.size w10).drew)
                        have fx := HFD.out.rx.free j
                        have cx' := HFD.out.rx.cell (k := j) hj2
                        rw [HQQ.out] at cx'
                        obtain ⟨w11, HW11⟩ : ∃ W, Hid (W = w10.drew.setCell ⟨n1 + 1, j, none⟩ (.int .i64 s9)) := ⟨_, rfl⟩
                        have HF11 : Hid (QF w w11 v rows w.heap.size gn n1 (n1 + 1) x y zs (putZ nx j n)) := by
                          have h9 := HFD.out.set j (wrap64 (el nx j + n))
                          rw [HW11.out, ← HS9.out, ← HQQ.out]
                          exact h9
                        clear f1 f2 f3 cx
                        generalize w10.drew = wD at *
                        clear hqw hqw2 hji hji2 hxw
                        have HE : Hid (QF w w11 v rows w.heap.size gn n1 (n1 + 1) x y zs (st (k + 1))) := by rw [HX0.out]; exact HF11.out
                        rw [HW11.out] at HE
                        go_wp2_with fail
                        go_roundw
                        case rel => exact ⟨k + 1, by omega, by go_num, HE⟩
                        case measure => simp [intOf]; omega
                      · rw [hb2] at z4 HX0
                        have z4' : (bits .and .i64 ((k : Int) / 2 ^ (x + 1)) 1 == 0) = false := by rw [show (2 : Int) ^ (x + 1) = ((2 ^ (x + 1) : Nat) : Int) by simp, z4]; rfl
                        clear z3 z4 z5
                        have HE : Hid (QF w w10 v rows w.heap.size gn n1 (n1 + 1) x y zs (st (k + 1))) := by rw [HX0.out]; exact HF10.out
                        go_wp2_with fail
                        go_roundw
                        case rel => exact ⟨k + 1, by omega, by go_num, HE⟩
                        case measure => simp [intOf]; omega
                  · have hs2 : spotB 7 ((x : Int) + 1) y = false := by
                      cases hs : spotB 7 ((x : Int) + 1) y
                      · rfl
                      · have := (spotB_iff _ _ _).1 hs; omega
                    have hr0 : r = false := by rw [← HR.out]; simp [hasC, hx8]
                    subst hr0
                    refine (specCellOk_any ((x : Int) + 1) (y : Int) _).mono ?_
                    rintro e w9 ⟨rfl, hb9⟩
                    rw [hs2]
                    clear g8a g8b
                    have HK9 := Lib.hid (blk_below HK8.out hb9)
                    have g9a : w9.cell? ⟨w7.heap.size, 0, none⟩ = some (.int .i64 ((x : Int) + 1)) := by rw [blk_cell HK9.out]; rfl
                    have g9b : w9.cell? ⟨w7.heap.size, 1, none⟩ = some (.int .i64 (y : Int)) := by rw [blk_cell HK9.out]; rfl
                    have HF9 := Lib.hid (HF8.out.below hb9)
                    clear f1 f2 f3
                    obtain ⟨f1, f2, f3⟩ := HF9.out.cells
                    have HE : Hid (QF w w9 v rows w.heap.size gn n1 (n1 + 1) x y zs (st (k + 1))) := by rw [HX0.out]; exact HF9.out
                    go_wp2_with fail
                    go_roundw
                    case rel => exact ⟨k + 1, by omega, by go_num, HE⟩
                    case measure => simp [intOf]; omega
            · rw [hb] at hsh
              have HFR : Hid (wrap64 ((k : Int) - wrap64 (2 ^ x)) = ((k - 2 ^ x : Nat) : Int)) := by
                unfold Hid
                rw [shl_q x hx7]
                have h1 : 2 ^ x ≤ k := Nat.ge_two_pow_of_testBit hb
                generalize (2 ^ x : Nat) = p at *
                unfold wrap64; omega
              cases h
              · have HX : Hid (st (k + 1) = nx) := by unfold Hid; rw [HIN.out, inZ, if_neg hn0]; simp [hb]
                clear hn0
                go_wp2_with fail
                rw [HFR.out]
                obtain ⟨B5, hB5, hr5⟩ := HF4.out.rd
                refine (l03Has_yes v rows B5 _ hr5 (Nat.le_trans hB5 HF4.out.big.size) hok x y (by omega) (by omega)).mono ?_
                rintro e w5 ⟨rfl, hb5⟩
                rw [HH1.out]
                clear hr5
                have HF5 := Lib.hid (HF4.out.below hb5)
                clear f1 f2 f3
                obtain ⟨f1, f2, f3⟩ := HF5.out.cells
                have HE : Hid (QF w w5 v rows w.heap.size gn n1 (n1 + 1) x y zs (st (k + 1))) := by rw [HX.out]; exact HF5.out
                go_wp2_with fail
                go_roundw
                case rel => exact ⟨k + 1, by omega, by go_num, HE⟩
                case measure => simp [intOf]; omega
              · have HX : Hid (st (k + 1) = putZ nx (k - 2 ^ x) n) := by unfold Hid; rw [HIN.out, inZ, if_neg hn0]; simp [hb]
                clear hn0
                go_wp2_with fail
                rw [HFR.out]
                obtain ⟨B5, hB5, hr5⟩ := HF4.out.rd
                refine (l03Has_yes v rows B5 _ hr5 (Nat.le_trans hB5 HF4.out.big.size) hok x y (by omega) (by omega)).mono ?_
                rintro e w5 ⟨rfl, hb5⟩
                rw [HH1.out]
                clear hr5
                have HF5 := Lib.hid (HF4.out.below hb5)
                clear f1 f2 f3
                obtain ⟨f1, f2, f3⟩ := HF5.out.cells
                obtain ⟨j, HJ⟩ : ∃ j : Nat, Hid (k - 2 ^ x = j) := ⟨_, rfl⟩
                have hj2 : j < 256 := by rw [← HJ.out]; exact Nat.lt_of_le_of_lt (Nat.sub_le _ _) hlt
                rw [HJ.out] at HX ⊢
                clear HFR
                have hj0 : (0 : Int) ≤ (j : Int) := by omega
                have hj1 : (j : Int) < 256 := by omega
                have cx := HF5.out.rx.cell (k := j) hj2
                have fx := HF5.out.rx.free (j)
                have HE : Hid (QF w (w5.setCell ⟨n1 + 1, j, none⟩ (.int .i64 (wrap64 (el nx (j) + n)))) v rows w.heap.size gn n1 (n1 + 1) x y zs (st (k + 1))) := by rw [HX.out]; exact HF5.out.set (j) _
                generalize el nx (j) = q at *
                go_wp2_with fail
                go_roundw
                case rel => exact ⟨k + 1, by omega, by go_num, HE⟩
                case measure => simp [intOf]; omega
        · have ht : decide ((k : Int) < 256) = false := by simp only [decide_eq_false_iff_not]; omega
          obtain rfl : k = 256 := by omega
          rw [← HS.out] at HF4
          have HFN : Hid (QB w wr v rows w.heap.size (n1 + 1) (pf (i + 1))) := by
            have h := HF4.out
            rw [HZS2.out]
            exact ⟨h.er, h.rx, h.big, h.rd, h.l1, h.lx⟩
          go_wp2_with fail
          go_roundw
          case rel => exact ⟨i + 1, _, by omega, by go_num, rfl, HFN⟩
          case measure => simp [intOf]; omega
    · have hti : decide ((i : Int) < 64) = false := by simp only [decide_eq_false_iff_not]; omega
      obtain rfl : i = 64 := by omega
      have cq := HQ.out.rn.cell (k := 0) (by omega)
      have HF : Hid (el (pf 64) 0 = res) := (HFZ.out _ rfl).symm
      go_wp2_with fail
      go_ret
      exact ⟨ret_int HF.out, HQ.out.big⟩
end Go.Proofs.YtehnbalbpfmijaaDoor

namespace Go.Proofs.YtehnbalbpfmijaaDoor
open Go.RowKit
set_option linter.unusedVariables false

theorem lst_all (zs : List Int) (hok : regOkB zs = true) (f : Nat) : ∀ (hd : List Lk) (most : Nat) (r : List (List Lk)), hd.length + f ≤ 1000 → most ≤ 100000 → r.length ≤ 100000 → lstO (setZ zs) f hd most = some r → LstAt zs f hd most r := by
  induction f with
  | zero => intro hd most r _ _ _ h; rw [lstO] at h; exact absurd h (by simp)
  | succ f ih =>
    intro hd most r h1 h2 h3 h
    by_cases h0 : (uncZ (setZ zs) hd).length = 0
    · rw [lstO, if_pos h0, Option.some.injEq] at h
      rw [← h]
      exact lst_end zs hok f hd most (by omega) h0
    · refine lst_step zs hok f hd most r (by omega) h2 h3 h0 h ?_
      intro l m sub hs hm hl
      exact ih (hd ++ [l]) m sub (by rw [List.length_append, List.length_singleton]; omega) (Nat.le_trans hm h2) hl hs

set_option maxRecDepth 100000 in
set_option maxHeartbeats 4000000 in
theorem specCountTilings_yes (v : Value) (zs : List Int) (B : Nat) (w : World) (h : RdI w B v zs) (hB : B ≤ w.heap.size) (hok : regOkB zs = true) :
    Calls Tryd.prog 15 #[.agg #[v]] w fun e w' => e = .returned (.int .i64 (profZ (setZ zs))) ∧ Below w.heap.size w w' := by
  have HRO := Lib.hid (fun V (hV : Below w.heap.size w V) => specRegionOk_yes v zs B V (h.below (hV.mono hB)) (Nat.le_trans hB hV.size) hok)
  have HLC := Lib.hid (fun V (hV : Below w.heap.size w V) => l07Count_yes v zs B V (h.below (hV.mono hB)) (Nat.le_trans hB hV.size) hok)
  generalize profZ (setZ zs) = p at *
  obtain ⟨A, c, rfl, g1, g2, _⟩ := h
  unfold maxLen at g2
  obtain ⟨W, hW, k1, hb1⟩ := one_alloc w (.cells #[.slice A zs.length c] 28)
  have c0 : W.cell? ⟨w.heap.size, 0, none⟩ = some (.slice A zs.length c) := by rw [blk_cell k1]; rfl
  have HK1 := Lib.hid k1
  have HB1 := Lib.hid hb1
  clear hok
  go_enter Tryd.func15, Tryd.ntmps15
  go_upto_region 1 with (fail)
  rw [← hW]
  clear hW k1 hb1
  go_wp2_with fail
  refine (HRO.out W HB1.out).mono ?_
  rintro e w2 ⟨rfl, hb2⟩
  have HB2 := Lib.hid (HB1.out.trans (hb2.mono HB1.out.size))
  have HK2 := Lib.hid (blk_below HK1.out hb2)
  have c2 : w2.cell? ⟨w.heap.size, 0, none⟩ = some (.slice A zs.length c) := by rw [blk_cell HK2.out]; rfl
  clear hb2 c0
  go_wp2_with fail
  refine (HLC.out w2 HB2.out).mono ?_
  rintro e w3 ⟨rfl, hb3⟩
  have HB3 := Lib.hid (HB2.out.trans (hb3.mono HB2.out.size))
  clear hb3
  go_wp2_with fail
  go_ret
  exact ⟨rfl, HB3.out⟩

set_option maxRecDepth 100000 in
set_option maxHeartbeats 4000000 in
theorem specListTilings_yes (v : Value) (zs : List Int) (B : Nat) (w : World) (h : RdI w B v zs) (hB : B ≤ w.heap.size) (hok : regOkB zs = true) (hc : 1 ≤ profZ (setZ zs) ∧ profZ (setZ zs) ≤ 300) (f : Nat) (hf : f ≤ 900) (r : List (List Lk)) (hr : r.length ≤ 100000) (hO : lstO (setZ zs) f [] 300 = some r) :
    Calls Tryd.prog 6 #[.agg #[v]] w (RetN (kdF elDomino) eDL w r) := by
  have hin : inB (profZ (setZ zs)) 1 300 = true := by rw [inB_iff]; exact hc
  have HCT := Lib.hid (fun V (hV : Below w.heap.size w V) => specCountTilings_yes v zs B V (h.below (hV.mono hB)) (Nat.le_trans hB hV.size) hok)
  have HLS := Lib.hid (fun V (hV : Below w.heap.size w V) => lst_all zs hok f [] 300 r (by simp; omega) (by omega) hr hO (V.alloc (.cells #[] 39)) (V.alloc (.cells #[] 39)).heap.size v (.slice (some ⟨V.heap.size, 0, none⟩) 0 0) (((h.below (hV.mono hB)).below (((Below.refl _ _).alloc (Nat.le_refl _) _).mono (Nat.le_trans hB hV.size))).more (Nat.le_trans (Nat.le_trans hB hV.size) (by simp))) ⟨_, _, rfl, Nat.le_refl _, by unfold maxLen; omega, fun j x hx => by simp at hx⟩ (Nat.le_refl _))
  generalize profZ (setZ zs) = p at *
  obtain ⟨A, c, rfl, g1, g2, _⟩ := h
  unfold maxLen at g2
  obtain ⟨W, hW, k1, hb1⟩ := one_alloc w (.cells #[.slice A zs.length c] 28)
  have c0 : W.cell? ⟨w.heap.size, 0, none⟩ = some (.slice A zs.length c) := by rw [blk_cell k1]; rfl
  have HK1 := Lib.hid k1
  have HB1 := Lib.hid hb1
  clear hok hO
  go_enter Tryd.func6, Tryd.ntmps6
  go_upto_region 1 with (fail)
  rw [← hW]
  clear hW k1 hb1
  go_wp2_with fail
  refine (HCT.out W HB1.out).mono ?_
  rintro e w2 ⟨rfl, hb2⟩
  have HB2 := Lib.hid (HB1.out.trans (hb2.mono HB1.out.size))
  have HK2 := Lib.hid (blk_below HK1.out hb2)
  have c2 : w2.cell? ⟨w.heap.size, 0, none⟩ = some (.slice A zs.length c) := by rw [blk_cell HK2.out]; rfl
  clear hb2 c0
  go_wp2_with fail
  refine (l01In_any _ _ _ _).mono ?_
  rintro e w3 ⟨rfl, rfl⟩
  rw [hin]
  have HL := Lib.hid (HLS.out w2 HB2.out)
  clear HLS
  go_wp2_with fail
  refine HL.out.mono ?_
  rintro e w3 ⟨v3, hi3, rfl, hN3⟩
  have hba : Below w2.heap.size w2 (w2.alloc (.cells #[] 39)) := (Below.refl _ _).alloc (Nat.le_refl _) _
  have HB3 := Lib.hid (HB2.out.trans (hba.mono HB2.out.size))
  have HN := Lib.hid hN3
  clear hN3 hba
  obtain ⟨A3, c3, hv3, _, _⟩ := HN.out.len okDL
  subst hv3
  go_wp2_with fail
  go_ret
  obtain ⟨ss, hA, hE, hh⟩ := HN.out
  have hs := HB3.out.size
  exact ⟨_, _, rfl, ss, ⟨hA.1.mono hs, HB3.out.trans (hA.2.1.mono hs), Nat.le_refl _, Nat.le_trans hs hA.2.1.size⟩, hE.more hs (Nat.le_refl _), hh⟩
end Go.Proofs.YtehnbalbpfmijaaDoor

namespace Go.Proofs.YtehnbalbpfmijaaDoor
open Go.RowKit
set_option linter.unusedVariables false

theorem addOff (g a n : Nat) : (⟨g, a, none⟩ : Addr).add n = ⟨g, a + n, none⟩ := by unfold Addr.add; split <;> simp_all
section
variable {α : Type} {E : El α}
theorem RdF.take {w : World} {B c : Nat} {A : Option Addr} {xs : List α} (h : RdF E w B (.slice A xs.length c) xs) {j : Nat} (hj : j ≤ xs.length) : RdF E w B (.slice A j c) (xs.take j) := by
  obtain ⟨A', c', hv, h1, h2, h3⟩ := h
  obtain ⟨rfl, rfl⟩ : A = A' ∧ c = c' := by simp at hv; exact hv
  have hl : (xs.take j).length = j := by simp; omega
  refine ⟨A, c, by rw [hl], by omega, h2, fun i x hx => h3 i x ?_⟩
  rw [List.getElem?_take] at hx
  split at hx
  · exact hx
  · simp at hx
theorem RdF.drop {w : World} {B c g : Nat} {xs : List α} (h : RdF E w B (.slice (some ⟨g, 0, none⟩) xs.length c) xs) {j : Nat} (hj : j ≤ xs.length) : RdF E w B (.slice (if c = j then some ⟨g, 0, none⟩ else some ⟨g, j * E.s, none⟩) (xs.length - j) (c - j)) (xs.drop j) := by
  obtain ⟨A', c', hv, h1, h2, h3⟩ := h
  obtain ⟨rfl, rfl⟩ : some (⟨g, 0, none⟩ : Addr) = A' ∧ c = c' := by simp at hv; exact ⟨hv.1, hv.2⟩
  have hl : (xs.drop j).length = xs.length - j := by simp
  refine ⟨_, c - j, by rw [hl], by omega, by omega, fun i x hx => ?_⟩
  have hi := (List.getElem?_eq_some_iff.1 hx).1
  rw [hl] at hi
  rw [List.getElem?_drop] at hx
  obtain ⟨ad, e, hb, hc⟩ := h3 (j + i) x hx
  obtain rfl := Option.some.inj e
  refine ⟨⟨g, j * E.s, none⟩, by rw [if_neg (by omega)], hb, fun q u hu => ?_⟩
  have := hc q u hu
  rw [addOff] at this
  rw [addOff]
  rw [show 0 + ((j + i) * E.s + q) = j * E.s + (i * E.s + q) by rw [Nat.add_mul]; omega] at this
  exact this
theorem RdF.void {w : World} {B c n : Nat} {A : Option Addr} (hn : n = 0) (hc : c ≤ maxLen) : RdF E w B (.slice A n c) ([] : List α) := ⟨A, c, by rw [hn]; rfl, Nat.zero_le _, hc, fun j x hx => by simp at hx⟩
end
/-- Two elements of rows, in a world that grows. -/
abbrev TwoE (V w' : World) (p : Addr) (x y : Int) (d : Bool) (q : Addr) (x' y' : Int) (d' : Bool) : Prop := w'.cell? p = some (.int .i64 x) ∧ w'.cell? ⟨p.block, p.off + 1, none⟩ = some (.int .i64 y) ∧ w'.cell? ⟨p.block, p.off + 2, none⟩ = some (.bool d) ∧
  w'.cell? q = some (.int .i64 x') ∧ w'.cell? ⟨q.block, q.off + 1, none⟩ = some (.int .i64 y') ∧ w'.cell? ⟨q.block, q.off + 2, none⟩ = some (.bool d') ∧ V.heap.size ≤ w'.heap.size ∧ Below V.heap.size V w'
theorem TwoE.keep {V W0 w1 : World} {p : Addr} {x y : Int} {d : Bool} {q : Addr} {x' y' : Int} {d' : Bool} (hb : Below W0.heap.size W0 w1) (ha : p.block < V.heap.size) (hp : q.block < V.heap.size) (h : TwoE V W0 p x y d q x' y' d') : TwoE V w1 p x y d q x' y' d' := by
  obtain ⟨h1, h2, h3, h4, h5, h6, h7, h8⟩ := h
  exact ⟨(hb.cell (by omega)).trans h1, (hb.cell (by simp; omega)).trans h2, (hb.cell (by simp; omega)).trans h3, (hb.cell (by omega)).trans h4, (hb.cell (by simp; omega)).trans h5, (hb.cell (by simp; omega)).trans h6, Nat.le_trans h7 hb.size, h8.trans (hb.mono h7)⟩
theorem TwoE.drew {V W0 : World} {p : Addr} {x y : Int} {d : Bool} {q : Addr} {x' y' : Int} {d' : Bool} (h : TwoE V W0 p x y d q x' y' d') : TwoE V W0.drew p x y d q x' y' d' := ⟨h.1, h.2.1, h.2.2.1, h.2.2.2.1, h.2.2.2.2.1, h.2.2.2.2.2.1, h.2.2.2.2.2.2.1, h.2.2.2.2.2.2.2.drew⟩

set_option maxRecDepth 100000 in
set_option maxHeartbeats 4000000 in
theorem specSortDominoes_any (v : Value) (ls : List Lk) (B : Nat) (w : World) (h : RdF elDomino w B v ls) (hB : B ≤ w.heap.size) :
    Calls Tryd.prog 19 #[v] w fun e w' => ∃ u, e = .returned u ∧ OwnF elDomino w' w.heap.size u (sortI ls ls.length) ∧ Below w.heap.size w w' := by
  rw [(sort_same ls ls.length).1]
  obtain ⟨A, c, rfl, g1, g2, G3⟩ := RdT.of (E := elDomino) rfl (fun _ => rfl) h
  unfold maxLen at g2
  clear h
  have HA0 : Hid (Acc elDomino w w.heap.size (w.alloc (.cells #[] 39)) (.slice (some ⟨w.heap.size, 0, none⟩) 0 0) []) := Acc.start w
  have HSS := Lib.hid (sort_same ls)
  have HSI : Hid (∀ k, sortS ls (k + 1) = if domL (dAt ls k) then insS (dAt ls k) (sortS ls k) else sortS ls k) := fun k => rfl
  have HS0 : Hid (sortS ls 0 = []) := rfl
  obtain ⟨st, HST⟩ : ∃ st, Hid (st = sortS ls) := ⟨_, rfl⟩
  rw [← HST.out] at HSI HS0 ⊢
  have HSR : Hid (∀ k, (st k).length ≤ 128) := fun k => by rw [HST.out, ← (HSS.out k).1]; exact (HSS.out k).2.short
  clear HST HSS
  go_enter Tryd.func19, Tryd.ntmps19
  go_wp2_with fail
  go_loopw [3, 4] (fun o i wr => ∃ (k g c2 : Nat), k ≤ ls.length ∧ i = .int .i64 k ∧ o = .slice (some ⟨g, 0, none⟩) (st k).length c2 ∧ Hid (Acc elDomino w w.heap.size wr (.slice (some ⟨g, 0, none⟩) (st k).length c2) (st k))) (fun _ i _ => ls.length - (intOf i).toNat)
  case atStart => exact ⟨0, _, _, Nat.zero_le _, rfl, by rw [HS0.out]; rfl, by rw [HS0.out]; exact HA0⟩
  case round =>
    obtain ⟨k, g, ca, hk, rfl, rfl, HA⟩ := hrel
    by_cases hlt : k < ls.length
    · have ht : decide ((k : Int) < (ls.length : Int)) = true := by simp only [decide_eq_true_eq]; omega
      obtain ⟨ad, rfl, hbl, hx, hy, hz⟩ := G3.out k hlt
      have hbl2 : (ad.add (k * 3)).block < w.heap.size := by rw [addBlock]; omega
      have hbw := HA.out.2.1
      have hx' := (hbw.cell (p := ad.add (k * 3)) hbl2).trans hx
      have hy' := (hbw.cell (p := ⟨(ad.add (k * 3)).block, (ad.add (k * 3)).off + 1, none⟩) hbl2).trans hy
      have hz' := (hbw.cell (p := ⟨(ad.add (k * 3)).block, (ad.add (k * 3)).off + 2, none⟩) hbl2).trans hz
      have HNX := Lib.hid (HSI.out k)
      have hshort := HSR.out k
      have HDA : Hid (dAt ls k = (lx ls k, ly ls k, ld ls k)) := rfl
      rw [HDA.out] at HNX
      have hk0 : (0 : Int) ≤ (k : Int) := by omega
      have hk1 : (k : Int) < (ls.length : Int) := by omega
      generalize lx ls k = x at *
      generalize ly ls k = y at *
      generalize ld ls k = d at *
      obtain ⟨ys, HYQ⟩ : ∃ ys, Hid (st k = ys) := ⟨_, rfl⟩
      rw [HYQ.out] at HA HNX hshort ⊢
      have hcap : ys.length ≤ ca ∧ ca ≤ maxLen := by
        obtain ⟨A9, c9, hv9, q1, q2, _⟩ := HA.out.1.rd okDomino
        simp at hv9
        omega
      obtain ⟨q1, q2⟩ := hcap
      unfold maxLen at q2
      have HXW : Hid (Three wr (ad.add (k * 3)) x y d) := ⟨hx', hy', hz'⟩
      have HADB := Lib.hid hbl2
      clear hx hy hz hbw HDA HYQ hbl2
      go_wp2_with fail
      refine (specDominoOk_any x y d _).mono ?_
      rintro e w1 ⟨rfl, hb1⟩
      have HA3 := Lib.hid (HA.out.below hb1)
      have hsz := HA.out.2.1.size
      have had : (ad.add (k * 3)).block < wr.heap.size := Nat.lt_of_lt_of_le HADB.out hsz
      have HX1 : Hid (Three w1 (ad.add (k * 3)) x y d) := ⟨(hb1.cell (p := ad.add (k * 3)) had).trans hx', (hb1.cell (p := ⟨(ad.add (k * 3)).block, (ad.add (k * 3)).off + 1, none⟩) had).trans hy', (hb1.cell (p := ⟨(ad.add (k * 3)).block, (ad.add (k * 3)).off + 2, none⟩) had).trans hz'⟩
      have HAD1 : Hid ((ad.add (k * 3)).block < w1.heap.size) := Nat.lt_of_lt_of_le had hb1.size
      clear hb1 hsz had hx' hy' hz' HXW
      obtain ⟨f1, f2, f3⟩ := HX1.out
      cases hd : domB x y d
      · have HE : Hid (st (k + 1) = ys) := by unfold Hid; rw [HNX.out, if_neg (by simp [domL, hd])]
        clear HNX hd
        go_wp2_with fail
        go_roundw
        case rel => exact ⟨k + 1, g, ca, by omega, by go_num, by rw [HE.out], by rw [HE.out]; exact HA3⟩
        case measure => simp [intOf]; omega
      · have HE : Hid (st (k + 1) = if decide (upK ys (x, y, d) ys.length 0 < ys.length) && (dAt ys (upK ys (x, y, d) ys.length 0) == (x, y, d)) then ys else ys.take (upK ys (x, y, d) ys.length 0) ++ [(x, y, d)] ++ ys.drop (upK ys (x, y, d) ys.length 0)) := by unfold Hid; rw [HNX.out, if_pos (by simp [domL, hd])]; rfl
        obtain ⟨q, HQ⟩ : ∃ q, Hid (upK ys (x, y, d) ys.length 0 = q) := ⟨_, rfl⟩
        rw [HQ.out] at HE
        clear HNX hd
        go_wp2_with fail
        go_loopw [5] (fun s wr2 => ∃ j : Nat, j ≤ ys.length ∧ s = .int .i64 j ∧ Hid (upK ys (x, y, d) (ys.length - j) j = q) ∧ Hid (Below w1.heap.size w1 wr2)) (fun s _ => ys.length - (intOf s).toNat)
        case atStart => exact ⟨0, Nat.zero_le _, rfl, HQ, Below.refl _ _⟩
        case round =>
          obtain ⟨j, hj, rfl, HJ, HB⟩ := hrel
          have HA4 := Lib.hid (HA3.out.below HB.out)
          have HX2 : Hid (Three wr (ad.add (k * 3)) x y d) := ⟨(HB.out.cell (p := ad.add (k * 3)) HAD1.out).trans HX1.out.1, (HB.out.cell (p := ⟨(ad.add (k * 3)).block, (ad.add (k * 3)).off + 1, none⟩) HAD1.out).trans HX1.out.2.1, (HB.out.cell (p := ⟨(ad.add (k * 3)).block, (ad.add (k * 3)).off + 2, none⟩) HAD1.out).trans HX1.out.2.2⟩
          have HAD2 : Hid ((ad.add (k * 3)).block < wr.heap.size) := Nat.lt_of_lt_of_le HAD1.out HB.out.size
          clear f1 f2 f3
          obtain ⟨e1, e2, e3⟩ := HX2.out
          have hj0 : (0 : Int) ≤ (j : Int) := by omega
          by_cases hjl : j < ys.length
          · have htj : decide (j < ys.length) = true := by simp only [decide_eq_true_eq]; omega
            have hj1 : (j : Int) < (ys.length : Int) := by omega
            obtain ⟨c0, c1, c2, _⟩ := triStore okDomino rfl (fun _ => rfl) HA4.out.1 hjl
            have HDM : Hid (dAt ys j = (lx ys j, ly ys j, ld ys j)) := rfl
            have HJ2 : Hid ((if domLt (lx ys j, ly ys j, ld ys j) (x, y, d) then upK ys (x, y, d) (ys.length - (j + 1)) (j + 1) else j) = q) := by
              unfold Hid; rw [← HJ.out, show ys.length - j = (ys.length - (j + 1)) + 1 by omega, upK, htj, HDM.out]; rfl
            have hgl : g < wr.heap.size := (HA4.out.1.lt g rfl).2
            have HGL := Lib.hid hgl
            generalize lx ys j = x2 at *
            generalize ly ys j = y2 at *
            generalize ld ys j = d2 at *
            have HS0 : Hid (TwoE wr wr (ad.add (k * 3)) x y d ⟨g, j * 3, none⟩ x2 y2 d2) := ⟨e1, e2, e3, c0, c1, c2, Nat.le_refl _, Below.refl _ _⟩
            clear hgl
            go_wp2_with fail
            go_region_held3 (fun w' => TwoE wr w' (ad.add (k * 3)) x y d ⟨g, j * 3, none⟩ x2 y2 d2)
              (first
                | exact HS0.out.drew
                | exact TwoE.keep hb1 HAD2.out HGL.out (by assumption))
              (first
                | (go_at_call 39; refine (specBefore_any x2 y2 d2 x y d _).mono ?_; rintro e w3 ⟨rfl, hb1⟩))
            have HP3 := Lib.hid (show TwoE wr _ (ad.add (k * 3)) x y d ⟨g, j * 3, none⟩ x2 y2 d2 from by assumption)
            clear e1 e2 e3 c0 c1 c2
            obtain ⟨e1, e2, e3, c0, c1, c2, _, hb3⟩ := HP3.out
            have HB3 := Lib.hid hb3
            clear hb3
            cases hlt2 : domLt (x2, y2, d2) (x, y, d)
            · have HQJ : Hid (q = j) := by unfold Hid; rw [← HJ2.out, if_neg (by simp [hlt2])]
              clear HJ2 hlt2
              by_cases heq : (x2, y2, d2) = (x, y, d)
              · have HE1 : Hid (st (k + 1) = ys) := by
                  unfold Hid; rw [HE.out, HQJ.out, if_pos]
                  rw [HDM.out, heq, htj]; simp
                simp only [Prod.mk.injEq] at heq
                obtain ⟨rfl, rfl, rfl⟩ := heq
                go_wp2_with fail
                go_quiet (fail)
                have HA9 := Lib.hid (HA4.out.below (HB3.out.trans (Drawn.below ⟨nq, rfl⟩ _)))
                go_wp2_with fail
                go_roundw
                case rel => exact ⟨k + 1, g, ca, by omega, by go_num, by rw [HE1.out], by rw [HE1.out]; exact HA9⟩
                case measure => simp [intOf]; omega
              · have HE0 : Hid (st (k + 1) = ys.take j ++ [(x, y, d)] ++ ys.drop j) := by
                  unfold Hid; rw [HE.out, HQJ.out, if_neg]
                  rw [HDM.out]
                  simpa [hjl] using heq
                have hsq : ∀ W : World, Sem.run Tryd.prog (binOp .eql 39 (.agg #[.int .i64 x2, .int .i64 y2, .bool d2]) (.agg #[.int .i64 x, .int .i64 y, .bool d])) W = .ok (.bool false) W := fun W => by
                  by_cases h1 : x2 = x
                  · by_cases h2 : y2 = y
                    · have h3 : ¬ d2 = d := fun h => heq (by rw [h1, h2, h])
                      go_simp
                    · go_simp
                  · go_simp
                clear heq HE
                go_wp2_with fail
                go_quiet (fail)
                clear hsq
                obtain ⟨W6, HW6⟩ : ∃ W6, Hid (W6 = World.drewN w3 nq) := ⟨_, rfl⟩
                rw [← HW6.out]
                have HBW : Hid (Below wr.heap.size wr W6) := by unfold Hid; rw [HW6.out]; exact HB3.out.trans (Drawn.below ⟨_, rfl⟩ _)
                clear c0 c1 c2
                have hcj : ¬ ca = j := by omega
                have HA6 := Lib.hid (HA4.out.below HBW.out)
                have hs6 := HBW.out.size
                have HX6 : Hid (Three W6 (ad.add (k * 3)) x y d) := ⟨(HBW.out.cell (p := ad.add (k * 3)) HAD2.out).trans HX2.out.1, (HBW.out.cell (p := ⟨(ad.add (k * 3)).block, (ad.add (k * 3)).off + 1, none⟩) HAD2.out).trans HX2.out.2.1, (HBW.out.cell (p := ⟨(ad.add (k * 3)).block, (ad.add (k * 3)).off + 2, none⟩) HAD2.out).trans HX2.out.2.2⟩
                have HAD6 : Hid ((ad.add (k * 3)).block < W6.heap.size) := Nat.lt_of_lt_of_le HAD2.out hs6
                have HR6 := Lib.hid (HA6.out.1.rd okDomino)
                have HN0 : Hid (Acc elDomino W6 W6.heap.size (W6.alloc (.cells #[] 39)) (.slice (some ⟨W6.heap.size, 0, none⟩) 0 0) []) := Acc.start W6
                have HR7 : Hid (RdF elDomino (W6.alloc (.cells #[] 39)) W6.heap.size (.slice (some ⟨g, 0, none⟩) j ca) (ys.take j)) := (HR6.out.below ((Below.refl _ _).alloc (Nat.le_refl _) _)).take hj
                have hjle : (j : Int) ≤ (ys.length : Int) := by omega
                have hjc : (j : Int) ≤ (ca : Int) := by omega
                clear e1 e2 e3 hs6
                go_wp2_with (first
                  | (at_builtin; refine wpList_pushSrcF okDomino rfl _ _ rfl HN0.out rfl (ys.take j) _ _ HR7.out rfl (by simp; omega) ?_; intro v8 w8 HN1 HG8; rw [List.nil_append] at HN1; obtain ⟨A8, c8, hv8, _⟩ := HN1.out.1.rd okDomino; rw [show (ys.take j).length = j by simp; omega] at hv8; subst hv8; have hb8 := HN1.out.2.1; have i1 := (hb8.cell (p := ad.add (k * 3)) HAD6.out).trans HX6.out.1; have i2 := (hb8.cell (p := ⟨(ad.add (k * 3)).block, (ad.add (k * 3)).off + 1, none⟩) HAD6.out).trans HX6.out.2.1; have i3 := (hb8.cell (p := ⟨(ad.add (k * 3)).block, (ad.add (k * 3)).off + 2, none⟩) HAD6.out).trans HX6.out.2.2; clear hb8)
                  | (at_builtin; refine wpList_push okDomino rfl _ _ rfl HN1.out rfl (x, y, d) _ rfl _ rfl rfl (by simp; omega) ?_; intro v9 w9 HN2 HG9; clear i1 i2 i3; obtain ⟨A9, c9, hv9, _⟩ := HN2.out.1.rd okDomino; rw [show (ys.take j ++ [((x, y, d) : Lk)]).length = j + 1 by simp; omega] at hv9; subst hv9; have h9 := (HR6.out.below HN2.out.2.1).drop hj; rw [if_neg hcj] at h9; have HR9 := Lib.hid h9; clear h9)
                  | (at_builtin; refine wpList_pushSrcF okDomino rfl _ _ rfl HN2.out rfl (ys.drop j) _ _ HR9.out rfl (by simp; omega) ?_; intro v10 w10 HN3 HG10; rw [← HE0.out] at HN3; have hp3 : 0 < (st (k + 1)).length := (by rw [HE0.out]; simp only [List.length_append, List.length_singleton]; omega); obtain ⟨g10, c10, hv10, _, _⟩ := World.ownsRow.form HN3.out.1 hp3; subst hv10))
                all_goals
                  have hmono := HA6.out.2.1.size
                  go_roundw
                  case rel => exact ⟨k + 1, g10, c10, by omega, by go_num, rfl, ⟨HN3.out.1.mono hmono, HA6.out.2.1.trans (HN3.out.2.1.mono hmono), Nat.le_refl _, Nat.le_trans hmono HN3.out.2.1.size⟩⟩
                  case measure => simp [intOf]; omega
            · have HJ3 : Hid (upK ys (x, y, d) (ys.length - (j + 1)) (j + 1) = q) := by unfold Hid; rw [← HJ2.out, if_pos hlt2]
              have HB4 := Lib.hid (HB.out.trans (HB3.out.mono HB.out.size))
              clear HJ2
              go_wp2_with fail
              go_roundw
              case rel => exact ⟨j + 1, by omega, by go_num, HJ3, HB4⟩
              case measure => simp [intOf]; omega
          · have htj : decide (j < ys.length) = false := by simp only [decide_eq_false_iff_not]; omega
            have HQJ : Hid (q = j) := by unfold Hid; rw [← HJ.out, show ys.length - j = 0 by omega]; rfl
            have HE0 : Hid (st (k + 1) = ys.take j ++ [(x, y, d)] ++ ys.drop j) := by
              unfold Hid; rw [HE.out, HQJ.out, htj]; simp
            go_wp2_with fail
            go_quiet (fail)
            obtain ⟨W5, HW5⟩ : ∃ W5, Hid (W5 = wr.drewN nq) := ⟨_, rfl⟩
            rw [← HW5.out]
            go_wp2_with fail
            go_quiet (fail)
            obtain ⟨W6, HW6⟩ : ∃ W6, Hid (W6 = W5.drewN nq) := ⟨_, rfl⟩
            rw [← HW6.out]
            have HBW : Hid (Below wr.heap.size wr W6) := by unfold Hid; rw [HW6.out, HW5.out]; exact (Drawn.below ⟨_, rfl⟩ _).trans ((Drawn.below ⟨_, rfl⟩ _))
            have HE9 : Hid (st (k + 1) = ys.take j ++ [(x, y, d)]) := by unfold Hid; rw [HE0.out, List.drop_of_length_le (by omega)]; simp
            have HA6 := Lib.hid (HA4.out.below HBW.out)
            have hs6 := HBW.out.size
            have HX6 : Hid (Three W6 (ad.add (k * 3)) x y d) := ⟨(HBW.out.cell (p := ad.add (k * 3)) HAD2.out).trans HX2.out.1, (HBW.out.cell (p := ⟨(ad.add (k * 3)).block, (ad.add (k * 3)).off + 1, none⟩) HAD2.out).trans HX2.out.2.1, (HBW.out.cell (p := ⟨(ad.add (k * 3)).block, (ad.add (k * 3)).off + 2, none⟩) HAD2.out).trans HX2.out.2.2⟩
            have HAD6 : Hid ((ad.add (k * 3)).block < W6.heap.size) := Nat.lt_of_lt_of_le HAD2.out hs6
            have HR6 := Lib.hid (HA6.out.1.rd okDomino)
            have HN0 : Hid (Acc elDomino W6 W6.heap.size (W6.alloc (.cells #[] 39)) (.slice (some ⟨W6.heap.size, 0, none⟩) 0 0) []) := Acc.start W6
            have HR7 : Hid (RdF elDomino (W6.alloc (.cells #[] 39)) W6.heap.size (.slice (some ⟨g, 0, none⟩) j ca) (ys.take j)) := (HR6.out.below ((Below.refl _ _).alloc (Nat.le_refl _) _)).take hj
            have hjle : (j : Int) ≤ (ys.length : Int) := by omega
            have hjc : (j : Int) ≤ (ca : Int) := by omega
            clear e1 e2 e3 hs6
            go_wp2_with (first
              | (at_builtin; refine wpList_pushSrcF okDomino rfl _ _ rfl HN0.out rfl (ys.take j) _ _ HR7.out rfl (by simp; omega) ?_; intro v8 w8 HN1 HG8; rw [List.nil_append] at HN1; obtain ⟨A8, c8, hv8, _⟩ := HN1.out.1.rd okDomino; rw [show (ys.take j).length = j by simp; omega] at hv8; subst hv8; have hb8 := HN1.out.2.1; have i1 := (hb8.cell (p := ad.add (k * 3)) HAD6.out).trans HX6.out.1; have i2 := (hb8.cell (p := ⟨(ad.add (k * 3)).block, (ad.add (k * 3)).off + 1, none⟩) HAD6.out).trans HX6.out.2.1; have i3 := (hb8.cell (p := ⟨(ad.add (k * 3)).block, (ad.add (k * 3)).off + 2, none⟩) HAD6.out).trans HX6.out.2.2; clear hb8)
              | (at_builtin; refine wpList_push okDomino rfl _ _ rfl HN1.out rfl (x, y, d) _ rfl _ rfl rfl (by simp; omega) ?_; intro v9 w9 HN2 HG9; clear i1 i2 i3; obtain ⟨A9, c9, hv9, _⟩ := HN2.out.1.rd okDomino; rw [show (ys.take j ++ [((x, y, d) : Lk)]).length = j + 1 by simp; omega] at hv9; subst hv9)
              | (at_builtin; refine wpList_pushSrcF okDomino rfl _ _ rfl HN2.out rfl [] 0 _ ?hr9 rfl (by simp; omega) ?_; (case hr9 => exact RdF.void (by omega) (by unfold maxLen; omega)); intro v10 w10 HN3 HG10; rw [List.append_nil, ← HE9.out] at HN3; have hp3 : 0 < (st (k + 1)).length := (by rw [HE9.out]; simp only [List.length_append, List.length_singleton]; omega); obtain ⟨g10, c10, hv10, _, _⟩ := World.ownsRow.form HN3.out.1 hp3; subst hv10))
            all_goals
              have hmono := HA6.out.2.1.size
              go_roundw
              case rel => exact ⟨k + 1, g10, c10, by omega, by go_num, rfl, ⟨HN3.out.1.mono hmono, HA6.out.2.1.trans (HN3.out.2.1.mono hmono), Nat.le_refl _, Nat.le_trans hmono HN3.out.2.1.size⟩⟩
              case measure => simp [intOf]; omega
    · obtain rfl : k = ls.length := by omega
      have ht : decide ((ls.length : Int) < (ls.length : Int)) = false := by simp
      go_wp2_with fail
      go_ret
      exact ⟨_, rfl, HA.out.1, HA.out.2.1⟩
end Go.Proofs.YtehnbalbpfmijaaDoor

namespace Go.Proofs.YtehnbalbpfmijaaDoor
open Go.RowKit
set_option linter.unusedVariables false

end Go.Proofs.YtehnbalbpfmijaaDoor
