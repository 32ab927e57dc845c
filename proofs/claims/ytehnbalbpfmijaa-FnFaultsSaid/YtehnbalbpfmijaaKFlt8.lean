/- What the claim's walk rests on: parts ProfS, Quiet, FltP, Each3. -/
import Derived.Test.YtehnbalbpfmijaaKFlt2
import Derived.Test.YtehnbalbpfmijaaKFlt5
import Derived.Test.YtehnbalbpfmijaaKFlt3
import Derived.Test.YtehnbalbpfmijaaKFlt7
import Derived.StillTailTactics
import Derived.Laws.EntriesVeiled
namespace Go.Proofs.Ytehnbalbpfmijaa
open Go.RowKit
set_option linter.unusedVariables false

structure QB (w wr : World) (v : Value) (rows : List Int) (p1 gn : Nat) (zs : List Int) : Prop where
  er : wr.heap[p1]? = some (.cells #[v] 39 (0, 0))
  rn : Row256 wr gn zs
  big : Below w.heap.size w wr
  rd : ∃ B, B ≤ w.heap.size ∧ RdI wr B v rows
  l1 : w.heap.size ≤ p1
  ln : p1 < gn
structure QF (w wr : World) (v : Value) (rows : List Int) (p1 gn p7 gx x y : Nat) (zs nx : List Int) : Prop where
  er : wr.heap[p1]? = some (.cells #[v] 39 (0, 0))
  rn : Row256 wr gn zs
  ec : wr.heap[p7]? = some (.cells #[.int .i64 (x : Int), .int .i64 (y : Int)] 44 (0, 0))
  rx : Row256 wr gx nx
  big : Below w.heap.size w wr
  rd : ∃ B, B ≤ w.heap.size ∧ RdI wr B v rows
  l1 : w.heap.size ≤ p1
  n1 : gx ≠ p1
  nn : gx ≠ gn
  nc : gx ≠ p7
  lx : p1 < gx
section
variable {w wr w1 : World} {v : Value} {rows : List Int} {p1 gn p7 gx x y : Nat} {zs nx nx' : List Int}
theorem QB.below (h : QB w wr v rows p1 gn zs) (hb : Below wr.heap.size wr w1) : QB w w1 v rows p1 gn zs := by
  obtain ⟨B, hB, hr⟩ := h.rd
  exact ⟨blk_below h.er hb, h.rn.keep (hb.block _ (lt_of_block h.rn.1)), h.big.trans (hb.mono h.big.size), ⟨B, hB, hr.below (hb.mono (Nat.le_trans hB h.big.size))⟩, h.l1, h.ln⟩
theorem QB.set (h : QB w wr v rows p1 gn zs) (k : Nat) (z : Int) : QB w (wr.setCell ⟨gn, k, none⟩ (.int .i64 z)) v rows p1 gn (zs.set k z) := by
  obtain ⟨B, hB, hr⟩ := h.rd
  have hl := h.ln
  have hl1 := h.l1
  have hb : Below w.heap.size wr (wr.setCell ⟨gn, k, none⟩ (.int .i64 z)) := (Below.refl _ _).setCell (by show w.heap.size ≤ gn; omega) _
  exact ⟨(Below.heap_setCell _ _ _ _ (by show p1 ≠ gn; omega)).trans h.er, h.rn.set k z, h.big.trans hb, ⟨B, hB, hr.below (hb.mono hB)⟩, h.l1, h.ln⟩
theorem QF.below (h : QF w wr v rows p1 gn p7 gx x y zs nx) (hb : Below wr.heap.size wr w1) : QF w w1 v rows p1 gn p7 gx x y zs nx := by
  obtain ⟨B, hB, hr⟩ := h.rd
  exact ⟨blk_below h.er hb, h.rn.keep (hb.block _ (lt_of_block h.rn.1)), blk_below h.ec hb, h.rx.keep (hb.block _ (lt_of_block h.rx.1)), h.big.trans (hb.mono h.big.size), ⟨B, hB, hr.below (hb.mono (Nat.le_trans hB h.big.size))⟩, h.l1, h.n1, h.nn, h.nc, h.lx⟩
theorem QF.set (h : QF w wr v rows p1 gn p7 gx x y zs nx) (k : Nat) (z : Int) : QF w (wr.setCell ⟨gx, k, none⟩ (.int .i64 z)) v rows p1 gn p7 gx x y zs (nx.set k z) := by
  obtain ⟨B, hB, hr⟩ := h.rd
  have hk : ∀ j, gx ≠ j → (wr.setCell ⟨gx, k, none⟩ (.int .i64 z)).heap[j]? = wr.heap[j]? := fun j hj => Below.heap_setCell _ _ _ _ (Ne.symm hj)
  have hl := h.lx
  have hl1 := h.l1
  have hb : Below w.heap.size wr (wr.setCell ⟨gx, k, none⟩ (.int .i64 z)) := (Below.refl _ _).setCell (by show w.heap.size ≤ gx; omega) _
  exact ⟨(hk _ h.n1).trans h.er, h.rn.keep (hk _ h.nn), (hk _ h.nc).trans h.ec, h.rx.set k z, h.big.trans hb, ⟨B, hB, hr.below (hb.mono hB)⟩, h.l1, h.n1, h.nn, h.nc, h.lx⟩
theorem QF.cells (h : QF w wr v rows p1 gn p7 gx x y zs nx) : wr.cell? ⟨p1, 0, none⟩ = some v ∧ wr.cell? ⟨p7, 0, none⟩ = some (.int .i64 (x : Int)) ∧ wr.cell? ⟨p7, 1, none⟩ = some (.int .i64 (y : Int)) :=
  ⟨by rw [blk_cell h.er]; rfl, by rw [blk_cell h.ec]; rfl, by rw [blk_cell h.ec]; rfl⟩
end
theorem shl_q (x : Nat) (hx : x ≤ 7) : wrap64 ((2 : Int) ^ x) = ((2 ^ x : Nat) : Int) := by
  have h : (2 ^ x : Nat) ≤ 2 ^ 7 := Nat.pow_le_pow_right (by omega) hx
  have e : ((2 : Int) ^ x) = ((2 ^ x : Nat) : Int) := by simp
  rw [e]
  generalize (2 ^ x : Nat) = p at *
  simp at h
  unfold wrap64
  omega

set_option maxRecDepth 100000 in
set_option maxHeartbeats 8000000 in
theorem l07Count_yes (v : Value) (rows : List Int) (B : Nat) (w : World) (hr : RdI w B v rows) (hB : B ≤ w.heap.size) (hok : regOkB rows = true) :
    Calls Try.prog 89 #[.agg #[v]] w fun e w' => e = .returned (.int .i64 (profZ (setZ rows))) ∧ Below w.heap.size w w' := by
  obtain ⟨T, HT⟩ : ∃ T, Hid (setZ rows = T) := ⟨_, rfl⟩
  rw [HT.out]
  obtain ⟨pf, HPF⟩ : ∃ pf : Nat → List Int, Hid (pf = profTo T) := ⟨_, rfl⟩
  obtain ⟨z0, HZ0⟩ : ∃ z : List Int, Hid (z = zeros) := ⟨_, rfl⟩
  have HPS : Hid (∀ i, pf (i + 1) = stepTo (hasC T (i % 8) (i / 8)) (hasC T (i % 8) (i / 8 + 1)) (hasC T (i % 8 + 1) (i / 8)) (i % 8) (pf i) 256) := by rw [HPF.out]; exact fun i => rfl
  have HPW : Hid (∀ i, WOk (pf i)) := by rw [HPF.out]; exact WOk.prof T
  have HP00 : Hid (pf 0 = z0.set 0 1) := by rw [HPF.out, HZ0.out]; rfl
  have HFZ : Hid (∀ r, pf 64 = r → profZ T = el r 0) := by rw [HPF.out]; exact fun r h => by rw [← h]; rfl
  have HST0 : Hid (∀ (h b r : Bool) (x : Nat) (zs : List Int), stepTo h b r x zs 0 = z0) := by rw [HZ0.out]; exact fun _ _ _ _ _ => rfl
  have HZL : Hid (z0.length = 256) := by rw [HZ0.out]; exact zeros_len
  obtain ⟨res, HRES⟩ : ∃ r, Hid (profZ T = r) := ⟨_, rfl⟩
  rw [HRES.out] at HFZ ⊢
  have hmk : ∀ w : World, (Instr.makeSlice 31 (.int .i64 256) (.int .i64 256)).run Try.prog w = .ok (.slice (some ⟨w.heap.size, 0, none⟩) 256 256) (w.alloc (.cells (madeCells #[.int .i64 0] 256) 3)) := fun _ => by kernel_rfl
  rw [made256, ← HZ0.out] at hmk
  clear HPF HZ0 HRES
  have HR := Lib.hid hr
  obtain ⟨A, c, rfl, _, g2, _⟩ := hr
  unfold maxLen at g2
  obtain ⟨v, HV⟩ : ∃ v, Hid (v = Value.slice A rows.length c) := ⟨_, rfl⟩
  rw [← HV.out] at HR ⊢
  obtain ⟨W, hW, k0, k1, hb0⟩ := two_alloc w (.cells #[v] 39) (.cells (rwC z0) 3)
  have HQ0 : Hid (QB w W v rows w.heap.size (w.heap.size + 1) z0) := ⟨k0, ⟨k1, HZL.out⟩, hb0, ⟨B, hB, HR.out.below (hb0.mono hB)⟩, Nat.le_refl _, by omega⟩
  have cW := HQ0.out.rn.cell (k := 0) (by omega)
  have fW := HQ0.out.rn.free 0
  have HSW : Hid ((rwC z0).setIfInBounds 0 (.int .i64 1) = rwC (pf 0)) := by unfold Hid; rw [HP00.out]; exact rwC_set _ _ _
  obtain ⟨W1, hW1, j0, j1, jb⟩ := two_alloc w (.cells #[v] 39) (.cells (rwC (pf 0)) 3)
  have HQ1 : Hid (QB w W1 v rows w.heap.size (w.heap.size + 1) (pf 0)) := ⟨j0, ⟨j1, by rw [HP00.out, List.length_set]; exact HZL.out⟩, jb, ⟨B, hB, HR.out.below (jb.mono hB)⟩, Nat.le_refl _, by omega⟩
  have HWW := Lib.hid hW1
  rw [hW] at cW fW
  clear hW k0 k1 hb0 HR HV hW1 j0 j1 jb
  go_enter Try.func89, Try.ntmps89
  go_wp2_with fail
  rw [HSW.out, ← HWW.out]
  clear cW fW HQ0
  go_loopw [4, 5] (fun u s wr => ∃ (i gn : Nat), i ≤ 64 ∧ s = .int .i64 i ∧ u = .slice (some ⟨gn, 0, none⟩) 256 256 ∧ Hid (QB w wr v rows w.heap.size gn (pf i))) (fun _ s _ => 64 - (intOf s).toNat)
  case atStart => exact ⟨0, _, Nat.zero_le _, rfl, rfl, HQ1⟩
  case round =>
    obtain ⟨i, gn, hi, rfl, rfl, HQ⟩ := hrel
    by_cases hli : i < 64
    · have hti : decide ((i : Int) < 64) = true := by simp only [decide_eq_true_eq]; omega
      have HS := Lib.hid (HPS.out i)
      have HWO := Lib.hid (HPW.out i)
      have hx7 : i % 8 ≤ 7 := by omega
      have hy7 : i / 8 ≤ 7 := by omega
      have HXI : Hid ((i : Int) % 8 = ((i % 8 : Nat) : Int)) := by unfold Hid; omega
      go_wp2_with fail
      refine (CellAt_yes i (by omega) _).mono ?_
      rintro e w1 ⟨rfl, hb1⟩
      rw [HXI.out]
      have HQ1 := Lib.hid (HQ.out.below hb1)
      obtain ⟨zs, HZS⟩ : ∃ zs, Hid (pf i = zs) := ⟨_, rfl⟩
      obtain ⟨zs2, HZS2⟩ : ∃ zs, Hid (pf (i + 1) = zs) := ⟨_, rfl⟩
      rw [HZS.out] at HQ1 HS HWO
      rw [HZS2.out] at HS
      clear HXI
      generalize i % 8 = x at *
      generalize i / 8 = y at *
      clear hb1 HQ
      go_wp2_with fail
      obtain ⟨W2, hW2, q0, q1, hb2⟩ := two_alloc w1 (.cells #[.int .i64 (x : Int), .int .i64 (y : Int)] 44) (.cells (rwC z0) 3)
      rw [← hW2]
      have HF0 : Hid (QF w W2 v rows w.heap.size gn w1.heap.size (w1.heap.size + 1) x y zs z0) := by
        have h := HQ1.out.below hb2
        have l1 := lt_of_block HQ1.out.er
        have l2 := lt_of_block HQ1.out.rn.1
        have l3 := HQ1.out.big.size
        exact ⟨h.er, h.rn, q0, ⟨q1, HZL.out⟩, h.big, h.rd, Nat.le_refl _, by omega, by omega, by omega, by omega⟩
      clear hW2 q0 q1 hb2 HQ1
      generalize w1.heap.size = n1 at *
      obtain ⟨h, HH⟩ : ∃ h, Hid (hasC T x y = h) := ⟨_, rfl⟩
      obtain ⟨b, HB⟩ : ∃ h, Hid (hasC T x (y + 1) = h) := ⟨_, rfl⟩
      obtain ⟨r, HR⟩ : ∃ h, Hid (hasC T (x + 1) y = h) := ⟨_, rfl⟩
      rw [HH.out, HB.out, HR.out] at HS
      obtain ⟨st, HST⟩ : ∃ st : Nat → List Int, Hid (st = stepTo h b r x zs) := ⟨_, rfl⟩
      have HSIN : Hid (∀ k, st (k + 1) = inZ h b r x (el zs k) k (st k)) := by rw [HST.out]; exact fun k => rfl
      have HF3 : Hid (QF w W2 v rows w.heap.size gn n1 (n1 + 1) x y zs (st 0)) := by rw [HST.out, HST0.out]; exact HF0.out
      rw [← HST.out] at HS
      clear HST HF0
      have HH1 : Hid (hasB (setZ rows) x y = h) := by unfold Hid; rw [HT.out, ← HH.out]; simp [hasC, hx7, hy7]
      go_loopw [10] (fun s wr => ∃ k : Nat, k ≤ 256 ∧ s = .int .i64 k ∧ Hid (QF w wr v rows w.heap.size gn n1 (n1 + 1) x y zs (st k))) (fun s _ => 256 - (intOf s).toNat)
      case atStart => exact ⟨0, Nat.zero_le _, rfl, HF3⟩
      case round =>
        obtain ⟨k, hk, rfl, HF4⟩ := hrel
        obtain ⟨f1, f2, f3⟩ := HF4.out.cells
        by_cases hlt : k < 256
        · have ht : decide ((k : Int) < 256) = true := by simp only [decide_eq_true_eq]; omega
          have hk0 : (0 : Int) ≤ (k : Int) := by omega
          have hk1 : (k : Int) < 256 := by omega
          have cr := HF4.out.rn.cell hlt
          have HN := Lib.hid (HWO.out k)
          have HIN := Lib.hid (HSIN.out k)
          obtain ⟨b1, b2, b3, b4, b5⟩ := bits_at k x hlt hx7
          have hsh := bit_shr k x (by omega) hx7
          have HB3 := Lib.hid b3; have HB5 := Lib.hid b5
          clear b1 b2 b3 b4 b5
          generalize st k = nx at *
          generalize el zs k = n at *
          by_cases hn0 : n = 0
          · have t0 : (n == 0) = true := by simp [hn0]
            have HF5 : Hid (QF w wr v rows w.heap.size gn n1 (n1 + 1) x y zs (st (k + 1))) := by rw [HIN.out, inZ, if_pos hn0]; exact HF4.out
            clear hn0 hsh
            go_wp2_with fail
            go_roundw
            case rel => exact ⟨k + 1, by omega, by go_num, HF5⟩
            case measure => simp [intOf]; omega
          · have t0 : (n == 0) = false := by rw [beq_eq_false_iff_ne]; exact hn0
            cases hb : k.testBit x
            · rw [hb] at hsh
              cases h
              · have HX : Hid (st (k + 1) = putZ nx k n) := by unfold Hid; rw [HIN.out, inZ, if_neg hn0]; simp [hb]
                clear hn0
                go_wp2_with fail
                obtain ⟨B5, hB5, hr5⟩ := HF4.out.rd
                refine (l03Has_yes v rows B5 _ hr5 (Nat.le_trans hB5 HF4.out.big.size) hok x y (by omega) (by omega)).mono ?_
                rintro e w5 ⟨rfl, hb5⟩
                rw [HH1.out]
                clear hr5
                have HF5 := Lib.hid (HF4.out.below hb5)
                clear f1 f2 f3
                obtain ⟨f1, f2, f3⟩ := HF5.out.cells
                have cx := HF5.out.rx.cell (k := k) hlt
                have fx := HF5.out.rx.free (k)
                have HE : Hid (QF w (w5.setCell ⟨n1 + 1, k, none⟩ (.int .i64 (wrap64 (el nx (k) + n)))) v rows w.heap.size gn n1 (n1 + 1) x y zs (st (k + 1))) := by rw [HX.out]; exact HF5.out.set (k) _
                generalize el nx (k) = q at *
                go_wp2_with fail
                go_roundw
                case rel => exact ⟨k + 1, by omega, by go_num, HE⟩
                case measure => simp [intOf]; omega
              · have HX0 : Hid (st (k + 1) = if r && !k.testBit (x + 1) then putZ (if b then putZ nx (k ||| 2 ^ x) n else nx) (k ||| 2 ^ (x + 1)) n else if b then putZ nx (k ||| 2 ^ x) n else nx) := by unfold Hid; rw [HIN.out, inZ, if_neg hn0]; simp only [hb, if_true]; rfl
                clear hn0
                go_wp2_with fail
                obtain ⟨B5, hB5, hr5⟩ := HF4.out.rd
                refine (l03Has_yes v rows B5 _ hr5 (Nat.le_trans hB5 HF4.out.big.size) hok x y (by omega) (by omega)).mono ?_
                rintro e w5 ⟨rfl, hb5⟩
                rw [HH1.out]
                clear hr5
                have HF5 := Lib.hid (HF4.out.below hb5)
                clear f1 f2 f3
                obtain ⟨f1, f2, f3⟩ := HF5.out.cells
                go_wp2_with fail
                obtain ⟨w6, hw6, hk6, hb6⟩ := one_alloc w5 (.cells #[.int .i64 (x : Int), .int .i64 ((y : Int) + 1)] 44)
                rw [← hw6]
                have HL6 := Lib.hid (lt_of_block hk6)
                have HK6 := Lib.hid hk6
                clear hw6 hk6
                have HF6 := Lib.hid (HF5.out.below hb6)
                clear f1 f2 f3
                obtain ⟨f1, f2, f3⟩ := HF6.out.cells
                have g6a : w6.cell? ⟨w5.heap.size, 0, none⟩ = some (.int .i64 (x : Int)) := by rw [blk_cell HK6.out]; rfl
                have g6b : w6.cell? ⟨w5.heap.size, 1, none⟩ = some (.int .i64 ((y : Int) + 1)) := by rw [blk_cell HK6.out]; rfl
                clear hb6
                have HY1 : Hid ((y : Int) + 1 = ((y + 1 : Nat) : Int)) := by unfold Hid; omega
                go_wp2_with fail
                by_cases hy8 : y + 1 ≤ 7
                · have hs : spotB 7 x ((y : Int) + 1) = true := (spotB_iff _ _ _).2 ⟨by omega, by omega⟩
                  refine (specCellOk_any (x : Int) ((y : Int) + 1) _).mono ?_
                  rintro e w7 ⟨rfl, hb7⟩
                  rw [hs]
                  clear g6a g6b
                  have HK7 := Lib.hid (blk_below HK6.out hb7)
                  have g7a : w7.cell? ⟨w5.heap.size, 0, none⟩ = some (.int .i64 (x : Int)) := by rw [blk_cell HK7.out]; rfl
                  have g7b : w7.cell? ⟨w5.heap.size, 1, none⟩ = some (.int .i64 ((y : Int) + 1)) := by rw [blk_cell HK7.out]; rfl
                  have HF7 := Lib.hid (HF6.out.below hb7)
                  clear f1 f2 f3
                  obtain ⟨f1, f2, f3⟩ := HF7.out.cells
                  have HB1 : Hid (hasB (setZ rows) x (y + 1) = b) := by unfold Hid; rw [HT.out, ← HB.out]; simp [hasC, hx7, hy8]
                  go_wp2_with fail
                  rw [HY1.out]
                  obtain ⟨B8, hB8, hr8⟩ := HF7.out.rd
                  refine (l03Has_yes v rows B8 _ hr8 (Nat.le_trans hB8 HF7.out.big.size) hok x (y + 1) (by omega) (by omega)).mono ?_
                  rintro e w8 ⟨rfl, hb8⟩
                  rw [HB1.out]
                  clear hr8
                  have HF8 := Lib.hid (HF7.out.below hb8)
                  clear f1 f2 f3
                  obtain ⟨f1, f2, f3⟩ := HF8.out.cells
                  clear g7a g7b
                  cases b
                  · skip
                    have HX0 : Hid (st (k + 1) = if r && !k.testBit (x + 1) then putZ nx (k ||| 2 ^ (x + 1)) n else nx) := HX0.out
                    go_wp2_with fail
                    obtain ⟨w9, hw9, hk9, hb9⟩ := one_alloc w8 (.cells #[.int .i64 ((x : Int) + 1), .int .i64 (y : Int)] 44)
                    rw [← hw9]
                    have HL9 := Lib.hid (lt_of_block hk9)
                    have HK9 := Lib.hid hk9
                    clear hw9 hk9
                    have HF9 := Lib.hid (HF8.out.below hb9)
                    clear f1 f2 f3
                    obtain ⟨f1, f2, f3⟩ := HF9.out.cells
                    have g9a : w9.cell? ⟨w8.heap.size, 0, none⟩ = some (.int .i64 ((x : Int) + 1)) := by rw [blk_cell HK9.out]; rfl
                    have g9b : w9.cell? ⟨w8.heap.size, 1, none⟩ = some (.int .i64 (y : Int)) := by rw [blk_cell HK9.out]; rfl
                    clear hb9
                    have HX1 : Hid ((x : Int) + 1 = ((x + 1 : Nat) : Int)) := by unfold Hid; omega
                    go_wp2_with fail
                    by_cases hx8 : x + 1 ≤ 7
                    · have hs2 : spotB 7 ((x : Int) + 1) y = true := (spotB_iff _ _ _).2 ⟨by omega, by omega⟩
                      refine (specCellOk_any ((x : Int) + 1) (y : Int) _).mono ?_
                      rintro e w10 ⟨rfl, hb10⟩
                      rw [hs2]
                      clear g9a g9b
                      have HK10 := Lib.hid (blk_below HK9.out hb10)
                      have g10a : w10.cell? ⟨w8.heap.size, 0, none⟩ = some (.int .i64 ((x : Int) + 1)) := by rw [blk_cell HK10.out]; rfl
                      have g10b : w10.cell? ⟨w8.heap.size, 1, none⟩ = some (.int .i64 (y : Int)) := by rw [blk_cell HK10.out]; rfl
                      have HF10 := Lib.hid (HF9.out.below hb10)
                      clear f1 f2 f3
                      obtain ⟨f1, f2, f3⟩ := HF10.out.cells
                      have HR1 : Hid (hasB (setZ rows) (x + 1) y = r) := by unfold Hid; rw [HT.out, ← HR.out]; simp [hasC, hx8, hy7]
                      go_wp2_with fail
                      rw [HX1.out]
                      obtain ⟨B11, hB11, hr11⟩ := HF10.out.rd
                      refine (l03Has_yes v rows B11 _ hr11 (Nat.le_trans hB11 HF10.out.big.size) hok (x + 1) y (by omega) (by omega)).mono ?_
                      rintro e w11 ⟨rfl, hb11⟩
                      rw [HR1.out]
                      clear hr11
                      have HF11 := Lib.hid (HF10.out.below hb11)
                      clear f1 f2 f3
                      obtain ⟨f1, f2, f3⟩ := HF11.out.cells
                      clear g10a g10b
                      cases r
                      · have HE : Hid (QF w w11 v rows w.heap.size gn n1 (n1 + 1) x y zs (st (k + 1))) := by rw [HX0.out]; exact HF11.out
                        go_wp2_with fail
                        go_roundw
                        case rel => exact ⟨k + 1, by omega, by go_num, HE⟩
                        case measure => simp [intOf]; omega
                      · obtain ⟨_, _, z3, z4, z5⟩ := bits_at k (x + 1) hlt hx8
                        cases hb2 : k.testBit (x + 1)
                        · rw [hb2] at z4 HX0
                          have z4' : (bits .and .i64 ((k : Int) / 2 ^ (x + 1)) 1 == 0) = true := by rw [show (2 : Int) ^ (x + 1) = ((2 ^ (x + 1) : Nat) : Int) by simp, z4]; rfl
                          have HZ3 := Lib.hid z3
                          have HZ5 := Lib.hid z5
                          clear z3 z4 z5
                          obtain ⟨j, HJ⟩ : ∃ j : Nat, Hid (k ||| 2 ^ (x + 1) = j) := ⟨_, rfl⟩
                          have hj2 : j < 256 := by rw [← HJ.out]; exact HZ5.out
                          have hji : bits .or .i64 (k : Int) (wrap64 (2 ^ (x + 1))) = (j : Int) := by rw [← HJ.out]; exact (by rw [shl_q _ hx8]; exact HZ3.out)
                          have hji2 : bits .or .i64 (k : Int) (IntKind.i64.wrap (2 ^ (x + 1))) = (j : Int) := by rw [IntWalk.i64_left]; exact hji
                          have hxw : IntKind.i64.wrap ((x : Int) + 1) = (x : Int) + 1 := IntWalk.i64_in _ (by omega)
                          have hj0 : (0 : Int) ≤ (j : Int) := by omega
                          have hj1 : (j : Int) < 256 := by omega
                          rw [HJ.out] at HX0
                          obtain ⟨q, HQQ⟩ : ∃ q, Hid (el nx j = q) := ⟨_, rfl⟩
                          obtain ⟨s9, HS9⟩ : ∃ s, Hid (wrap64 (q + n) = s) := ⟨_, rfl⟩
                          have hqw : wrap64 (q + n) = s9 := HS9.out
                          have hqw2 : IntKind.i64.wrap (q + n) = s9 := by rw [IntWalk.i64_left]; exact HS9.out
                          have cx := HF11.out.rx.cell (k := j) hj2
                          rw [HQQ.out] at cx
                          go_wp2_with fail
                          go_still_tail 17, (by kernel_rfl)
                          change wpList _ _ _ _ _ w11.drew
                          have HFD := Lib.hid (HF11.out.below (Below.refl w11.heap.size w11).drew)
                          have fx := HFD.out.rx.free j
                          have cx' := HFD.out.rx.cell (k := j) hj2
                          rw [HQQ.out] at cx'
                          obtain ⟨w12, HW12⟩ : ∃ W, Hid (W = w11.drew.setCell ⟨n1 + 1, j, none⟩ (.int .i64 s9)) := ⟨_, rfl⟩
                          have HF12 : Hid (QF w w12 v rows w.heap.size gn n1 (n1 + 1) x y zs (putZ nx j n)) := by
                            have h9 := HFD.out.set j (wrap64 (el nx j + n))
                            rw [HW12.out, ← HS9.out, ← HQQ.out]
                            exact h9
                          clear f1 f2 f3 cx
                          generalize w11.drew = wD at *
                          clear hqw hqw2 hji hji2 hxw
                          have HE : Hid (QF w w12 v rows w.heap.size gn n1 (n1 + 1) x y zs (st (k + 1))) := by rw [HX0.out]; exact HF12.out
                          rw [HW12.out] at HE
                          go_wp2_with fail
                          go_roundw
                          case rel => exact ⟨k + 1, by omega, by go_num, HE⟩
                          case measure => simp [intOf]; omega
                        · rw [hb2] at z4 HX0
                          have z4' : (bits .and .i64 ((k : Int) / 2 ^ (x + 1)) 1 == 0) = false := by rw [show (2 : Int) ^ (x + 1) = ((2 ^ (x + 1) : Nat) : Int) by simp, z4]; rfl
                          clear z3 z4 z5
                          have HE : Hid (QF w w11 v rows w.heap.size gn n1 (n1 + 1) x y zs (st (k + 1))) := by rw [HX0.out]; exact HF11.out
                          go_wp2_with fail
                          go_roundw
                          case rel => exact ⟨k + 1, by omega, by go_num, HE⟩
                          case measure => simp [intOf]; omega
                    · have hs2 : spotB 7 ((x : Int) + 1) y = false := by
                        cases hs : spotB 7 ((x : Int) + 1) y
                        · rfl
                        · have := (spotB_iff _ _ _).1 hs; omega
                      have hr0 : r = false := by rw [← HR.out]; simp [hasC, hx8]
                      subst hr0
                      refine (specCellOk_any ((x : Int) + 1) (y : Int) _).mono ?_
                      rintro e w10 ⟨rfl, hb10⟩
                      rw [hs2]
                      clear g9a g9b
                      have HK10 := Lib.hid (blk_below HK9.out hb10)
                      have g10a : w10.cell? ⟨w8.heap.size, 0, none⟩ = some (.int .i64 ((x : Int) + 1)) := by rw [blk_cell HK10.out]; rfl
                      have g10b : w10.cell? ⟨w8.heap.size, 1, none⟩ = some (.int .i64 (y : Int)) := by rw [blk_cell HK10.out]; rfl
                      have HF10 := Lib.hid (HF9.out.below hb10)
                      clear f1 f2 f3
                      obtain ⟨f1, f2, f3⟩ := HF10.out.cells
                      have HE : Hid (QF w w10 v rows w.heap.size gn n1 (n1 + 1) x y zs (st (k + 1))) := by rw [HX0.out]; exact HF10.out
                      go_wp2_with fail
                      go_roundw
                      case rel => exact ⟨k + 1, by omega, by go_num, HE⟩
                      case measure => simp [intOf]; omega
                  · skip
                    have HX9 : Hid (st (k + 1) = if r && !k.testBit (x + 1) then putZ (putZ nx (k ||| 2 ^ x) n) (k ||| 2 ^ (x + 1)) n else putZ nx (k ||| 2 ^ x) n) := HX0.out
                    clear HX0
                    have HX0 := HX9
                    clear HX9
                    obtain ⟨jb, HJb⟩ : ∃ jb : Nat, Hid (k ||| 2 ^ x = jb) := ⟨_, rfl⟩
                    have hj2b : jb < 256 := by rw [← HJb.out]; exact HB5.out
                    have hji : bits .or .i64 (k : Int) (wrap64 (2 ^ x)) = (jb : Int) := by rw [← HJb.out]; exact (by rw [shl_q _ hx7]; exact HB3.out)
                    have hji2 : bits .or .i64 (k : Int) (IntKind.i64.wrap (2 ^ x)) = (jb : Int) := by rw [IntWalk.i64_left]; exact hji
                    have hxw : IntKind.i64.wrap ((x : Int) + 1) = (x : Int) + 1 := IntWalk.i64_in _ (by omega)
                    have hj0b : (0 : Int) ≤ (jb : Int) := by omega
                    have hj1b : (jb : Int) < 256 := by omega
                    rw [HJb.out] at HX0
                    obtain ⟨qb, HQQb⟩ : ∃ qb, Hid (el nx jb = qb) := ⟨_, rfl⟩
                    obtain ⟨sb9, HS9b⟩ : ∃ s, Hid (wrap64 (qb + n) = s) := ⟨_, rfl⟩
                    have hqw : wrap64 (qb + n) = sb9 := HS9b.out
                    have hqw2 : IntKind.i64.wrap (qb + n) = sb9 := by rw [IntWalk.i64_left]; exact HS9b.out
                    have cx := HF8.out.rx.cell (k := jb) hj2b
                    rw [HQQb.out] at cx
                    go_wp2_with fail
                    go_still_tail 15, (by kernel_rfl)
                    change wpList _ _ _ _ _ w8.drew
                    have HFDb := Lib.hid (HF8.out.below (Below.refl w8.heap.size w8).drew)
                    have fx := HFDb.out.rx.free jb
                    have cx' := HFDb.out.rx.cell (k := jb) hj2b
                    rw [HQQb.out] at cx'
                    obtain ⟨w9, HW9⟩ : ∃ W, Hid (W = w8.drew.setCell ⟨n1 + 1, jb, none⟩ (.int .i64 sb9)) := ⟨_, rfl⟩
                    have HF9 : Hid (QF w w9 v rows w.heap.size gn n1 (n1 + 1) x y zs (putZ nx jb n)) := by
                      have h9 := HFDb.out.set jb (wrap64 (el nx jb + n))
                      rw [HW9.out, ← HS9b.out, ← HQQb.out]
                      exact h9
                    clear f1 f2 f3 cx
                    generalize w8.drew = wDb at *
                    clear hqw hqw2 hji hji2 hxw
                    go_upto_region 27 with (fail)
                    rw [← HW9.out]
                    obtain ⟨f1, f2, f3⟩ := HF9.out.cells
                    clear fx cx'
                    go_wp2_with fail
                    obtain ⟨w10, hw10, hk10, hb10⟩ := one_alloc w9 (.cells #[.int .i64 ((x : Int) + 1), .int .i64 (y : Int)] 44)
                    rw [← hw10]
                    have HL10 := Lib.hid (lt_of_block hk10)
                    have HK10 := Lib.hid hk10
                    clear hw10 hk10
                    have HF10 := Lib.hid (HF9.out.below hb10)
                    clear f1 f2 f3
                    obtain ⟨f1, f2, f3⟩ := HF10.out.cells
                    have g10a : w10.cell? ⟨w9.heap.size, 0, none⟩ = some (.int .i64 ((x : Int) + 1)) := by rw [blk_cell HK10.out]; rfl
                    have g10b : w10.cell? ⟨w9.heap.size, 1, none⟩ = some (.int .i64 (y : Int)) := by rw [blk_cell HK10.out]; rfl
                    clear hb10
                    have HX1 : Hid ((x : Int) + 1 = ((x + 1 : Nat) : Int)) := by unfold Hid; omega
                    go_wp2_with fail
                    by_cases hx8 : x + 1 ≤ 7
                    · have hs2 : spotB 7 ((x : Int) + 1) y = true := (spotB_iff _ _ _).2 ⟨by omega, by omega⟩
                      refine (specCellOk_any ((x : Int) + 1) (y : Int) _).mono ?_
                      rintro e w11 ⟨rfl, hb11⟩
                      rw [hs2]
                      clear g10a g10b
                      have HK11 := Lib.hid (blk_below HK10.out hb11)
                      have g11a : w11.cell? ⟨w9.heap.size, 0, none⟩ = some (.int .i64 ((x : Int) + 1)) := by rw [blk_cell HK11.out]; rfl
                      have g11b : w11.cell? ⟨w9.heap.size, 1, none⟩ = some (.int .i64 (y : Int)) := by rw [blk_cell HK11.out]; rfl
                      have HF11 := Lib.hid (HF10.out.below hb11)
                      clear f1 f2 f3
                      obtain ⟨f1, f2, f3⟩ := HF11.out.cells
                      have HR1 : Hid (hasB (setZ rows) (x + 1) y = r) := by unfold Hid; rw [HT.out, ← HR.out]; simp [hasC, hx8, hy7]
                      go_wp2_with fail
                      rw [HX1.out]
                      obtain ⟨B12, hB12, hr12⟩ := HF11.out.rd
                      refine (l03Has_yes v rows B12 _ hr12 (Nat.le_trans hB12 HF11.out.big.size) hok (x + 1) y (by omega) (by omega)).mono ?_
                      rintro e w12 ⟨rfl, hb12⟩
                      rw [HR1.out]
                      clear hr12
                      have HF12 := Lib.hid (HF11.out.below hb12)
                      clear f1 f2 f3
                      obtain ⟨f1, f2, f3⟩ := HF12.out.cells
                      clear g11a g11b
                      cases r
                      · have HE : Hid (QF w w12 v rows w.heap.size gn n1 (n1 + 1) x y zs (st (k + 1))) := by rw [HX0.out]; exact HF12.out
                        go_wp2_with fail
                        go_roundw
                        case rel => exact ⟨k + 1, by omega, by go_num, HE⟩
                        case measure => simp [intOf]; omega
                      · obtain ⟨_, _, z3, z4, z5⟩ := bits_at k (x + 1) hlt hx8
                        cases hb2 : k.testBit (x + 1)
                        · rw [hb2] at z4 HX0
                          have z4' : (bits .and .i64 ((k : Int) / 2 ^ (x + 1)) 1 == 0) = true := by rw [show (2 : Int) ^ (x + 1) = ((2 ^ (x + 1) : Nat) : Int) by simp, z4]; rfl
                          have HZ3 := Lib.hid z3
                          have HZ5 := Lib.hid z5
                          clear z3 z4 z5
                          obtain ⟨j, HJ⟩ : ∃ j : Nat, Hid (k ||| 2 ^ (x + 1) = j) := ⟨_, rfl⟩
                          have hj2 : j < 256 := by rw [← HJ.out]; exact HZ5.out
                          have hji : bits .or .i64 (k : Int) (wrap64 (2 ^ (x + 1))) = (j : Int) := by rw [← HJ.out]; exact (by rw [shl_q _ hx8]; exact HZ3.out)
                          have hji2 : bits .or .i64 (k : Int) (IntKind.i64.wrap (2 ^ (x + 1))) = (j : Int) := by rw [IntWalk.i64_left]; exact hji
                          have hxw : IntKind.i64.wrap ((x : Int) + 1) = (x : Int) + 1 := IntWalk.i64_in _ (by omega)
                          have hj0 : (0 : Int) ≤ (j : Int) := by omega
                          have hj1 : (j : Int) < 256 := by omega
                          rw [HJ.out] at HX0
                          obtain ⟨q, HQQ⟩ : ∃ q, Hid (el (putZ nx jb n) j = q) := ⟨_, rfl⟩
                          obtain ⟨s9, HS9⟩ : ∃ s, Hid (wrap64 (q + n) = s) := ⟨_, rfl⟩
                          have hqw : wrap64 (q + n) = s9 := HS9.out
                          have hqw2 : IntKind.i64.wrap (q + n) = s9 := by rw [IntWalk.i64_left]; exact HS9.out
                          have cx := HF12.out.rx.cell (k := j) hj2
                          rw [HQQ.out] at cx
                          go_wp2_with fail
                          go_still_tail 17, (by kernel_rfl)
                          change wpList _ _ _ _ _ w12.drew
                          have HFD := Lib.hid (HF12.out.below (Below.refl w12.heap.size w12).drew)
                          have fx := HFD.out.rx.free j
                          have cx' := HFD.out.rx.cell (k := j) hj2
                          rw [HQQ.out] at cx'
                          obtain ⟨w13, HW13⟩ : ∃ W, Hid (W = w12.drew.setCell ⟨n1 + 1, j, none⟩ (.int .i64 s9)) := ⟨_, rfl⟩
                          have HF13 : Hid (QF w w13 v rows w.heap.size gn n1 (n1 + 1) x y zs (putZ (putZ nx jb n) j n)) := by
                            have h9 := HFD.out.set j (wrap64 (el (putZ nx jb n) j + n))
                            rw [HW13.out, ← HS9.out, ← HQQ.out]
                            exact h9
                          clear f1 f2 f3 cx
                          generalize w12.drew = wD at *
                          clear hqw hqw2 hji hji2 hxw
                          have HE : Hid (QF w w13 v rows w.heap.size gn n1 (n1 + 1) x y zs (st (k + 1))) := by rw [HX0.out]; exact HF13.out
                          rw [HW13.out] at HE
                          go_wp2_with fail
                          go_roundw
                          case rel => exact ⟨k + 1, by omega, by go_num, HE⟩
                          case measure => simp [intOf]; omega
                        · rw [hb2] at z4 HX0
                          have z4' : (bits .and .i64 ((k : Int) / 2 ^ (x + 1)) 1 == 0) = false := by rw [show (2 : Int) ^ (x + 1) = ((2 ^ (x + 1) : Nat) : Int) by simp, z4]; rfl
                          clear z3 z4 z5
                          have HE : Hid (QF w w12 v rows w.heap.size gn n1 (n1 + 1) x y zs (st (k + 1))) := by rw [HX0.out]; exact HF12.out
                          go_wp2_with fail
                          go_roundw
                          case rel => exact ⟨k + 1, by omega, by go_num, HE⟩
                          case measure => simp [intOf]; omega
                    · have hs2 : spotB 7 ((x : Int) + 1) y = false := by
                        cases hs : spotB 7 ((x : Int) + 1) y
                        · rfl
                        · have := (spotB_iff _ _ _).1 hs; omega
                      have hr0 : r = false := by rw [← HR.out]; simp [hasC, hx8]
                      subst hr0
                      refine (specCellOk_any ((x : Int) + 1) (y : Int) _).mono ?_
                      rintro e w11 ⟨rfl, hb11⟩
                      rw [hs2]
                      clear g10a g10b
                      have HK11 := Lib.hid (blk_below HK10.out hb11)
                      have g11a : w11.cell? ⟨w9.heap.size, 0, none⟩ = some (.int .i64 ((x : Int) + 1)) := by rw [blk_cell HK11.out]; rfl
                      have g11b : w11.cell? ⟨w9.heap.size, 1, none⟩ = some (.int .i64 (y : Int)) := by rw [blk_cell HK11.out]; rfl
                      have HF11 := Lib.hid (HF10.out.below hb11)
                      clear f1 f2 f3
                      obtain ⟨f1, f2, f3⟩ := HF11.out.cells
                      have HE : Hid (QF w w11 v rows w.heap.size gn n1 (n1 + 1) x y zs (st (k + 1))) := by rw [HX0.out]; exact HF11.out
                      go_wp2_with fail
                      go_roundw
                      case rel => exact ⟨k + 1, by omega, by go_num, HE⟩
                      case measure => simp [intOf]; omega
                · have hs : spotB 7 x ((y : Int) + 1) = false := by
                    cases hs : spotB 7 x ((y : Int) + 1)
                    · rfl
                    · have := (spotB_iff _ _ _).1 hs; omega
                  have hb0 : b = false := by rw [← HB.out]; simp [hasC, hy8]
                  subst hb0
                  refine (specCellOk_any (x : Int) ((y : Int) + 1) _).mono ?_
                  rintro e w7 ⟨rfl, hb7⟩
                  rw [hs]
                  clear g6a g6b
                  have HK7 := Lib.hid (blk_below HK6.out hb7)
                  have g7a : w7.cell? ⟨w5.heap.size, 0, none⟩ = some (.int .i64 (x : Int)) := by rw [blk_cell HK7.out]; rfl
                  have g7b : w7.cell? ⟨w5.heap.size, 1, none⟩ = some (.int .i64 ((y : Int) + 1)) := by rw [blk_cell HK7.out]; rfl
                  have HF7 := Lib.hid (HF6.out.below hb7)
                  clear f1 f2 f3
                  obtain ⟨f1, f2, f3⟩ := HF7.out.cells
                  clear g7a g7b
                  have HX0 : Hid (st (k + 1) = if r && !k.testBit (x + 1) then putZ nx (k ||| 2 ^ (x + 1)) n else nx) := HX0.out
                  go_wp2_with fail
                  obtain ⟨w8, hw8, hk8, hb8⟩ := one_alloc w7 (.cells #[.int .i64 ((x : Int) + 1), .int .i64 (y : Int)] 44)
                  rw [← hw8]
                  have HL8 := Lib.hid (lt_of_block hk8)
                  have HK8 := Lib.hid hk8
                  clear hw8 hk8
                  have HF8 := Lib.hid (HF7.out.below hb8)
                  clear f1 f2 f3
                  obtain ⟨f1, f2, f3⟩ := HF8.out.cells
                  have g8a : w8.cell? ⟨w7.heap.size, 0, none⟩ = some (.int .i64 ((x : Int) + 1)) := by rw [blk_cell HK8.out]; rfl
                  have g8b : w8.cell? ⟨w7.heap.size, 1, none⟩ = some (.int .i64 (y : Int)) := by rw [blk_cell HK8.out]; rfl
                  clear hb8
                  have HX1 : Hid ((x : Int) + 1 = ((x + 1 : Nat) : Int)) := by unfold Hid; omega
                  go_wp2_with fail
                  by_cases hx8 : x + 1 ≤ 7
                  · have hs2 : spotB 7 ((x : Int) + 1) y = true := (spotB_iff _ _ _).2 ⟨by omega, by omega⟩
                    refine (specCellOk_any ((x : Int) + 1) (y : Int) _).mono ?_
                    rintro e w9 ⟨rfl, hb9⟩
                    rw [hs2]
                    clear g8a g8b
                    have HK9 := Lib.hid (blk_below HK8.out hb9)
                    have g9a : w9.cell? ⟨w7.heap.size, 0, none⟩ = some (.int .i64 ((x : Int) + 1)) := by rw [blk_cell HK9.out]; rfl
                    have g9b : w9.cell? ⟨w7.heap.size, 1, none⟩ = some (.int .i64 (y : Int)) := by rw [blk_cell HK9.out]; rfl
                    have HF9 := Lib.hid (HF8.out.below hb9)
                    clear f1 f2 f3
                    obtain ⟨f1, f2, f3⟩ := HF9.out.cells
                    have HR1 : Hid (hasB (setZ rows) (x + 1) y = r) := by unfold Hid; rw [HT.out, ← HR.out]; simp [hasC, hx8, hy7]
                    go_wp2_with fail
                    rw [HX1.out]
                    obtain ⟨B10, hB10, hr10⟩ := HF9.out.rd
                    refine (l03Has_yes v rows B10 _ hr10 (Nat.le_trans hB10 HF9.out.big.size) hok (x + 1) y (by omega) (by omega)).mono ?_
                    rintro e w10 ⟨rfl, hb10⟩
                    rw [HR1.out]
                    clear hr10
                    have HF10 := Lib.hid (HF9.out.below hb10)
                    clear f1 f2 f3
                    obtain ⟨f1, f2, f3⟩ := HF10.out.cells
                    clear g9a g9b
                    cases r
                    · have HE : Hid (QF w w10 v rows w.heap.size gn n1 (n1 + 1) x y zs (st (k + 1))) := by rw [HX0.out]; exact HF10.out
                      go_wp2_with fail
                      go_roundw
                      case rel => exact ⟨k + 1, by omega, by go_num, HE⟩
                      case measure => simp [intOf]; omega
                    · obtain ⟨_, _, z3, z4, z5⟩ := bits_at k (x + 1) hlt hx8
                      cases hb2 : k.testBit (x + 1)
                      · rw [hb2] at z4 HX0
                        have z4' : (bits .and .i64 ((k : Int) / 2 ^ (x + 1)) 1 == 0) = true := by rw [show (2 : Int) ^ (x + 1) = ((2 ^ (x + 1) : Nat) : Int) by simp, z4]; rfl
                        have HZ3 := Lib.hid z3
                        have HZ5 := Lib.hid z5
                        clear z3 z4 z5
                        obtain ⟨j, HJ⟩ : ∃ j : Nat, Hid (k ||| 2 ^ (x + 1) = j) := ⟨_, rfl⟩
                        have hj2 : j < 256 := by rw [← HJ.out]; exact HZ5.out
                        have hji : bits .or .i64 (k : Int) (wrap64 (2 ^ (x + 1))) = (j : Int) := by rw [← HJ.out]; exact (by rw [shl_q _ hx8]; exact HZ3.out)
                        have hji2 : bits .or .i64 (k : Int) (IntKind.i64.wrap (2 ^ (x + 1))) = (j : Int) := by rw [IntWalk.i64_left]; exact hji
                        have hxw : IntKind.i64.wrap ((x : Int) + 1) = (x : Int) + 1 := IntWalk.i64_in _ (by omega)
                        have hj0 : (0 : Int) ≤ (j : Int) := by omega
                        have hj1 : (j : Int) < 256 := by omega
                        rw [HJ.out] at HX0
                        obtain ⟨q, HQQ⟩ : ∃ q, Hid (el nx j = q) := ⟨_, rfl⟩
                        obtain ⟨s9, HS9⟩ : ∃ s, Hid (wrap64 (q + n) = s) := ⟨_, rfl⟩
                        have hqw : wrap64 (q + n) = s9 := HS9.out
                        have hqw2 : IntKind.i64.wrap (q + n) = s9 := by rw [IntWalk.i64_left]; exact HS9.out
                        have cx := HF10.out.rx.cell (k := j) hj2
                        rw [HQQ.out] at cx
                        go_wp2_with fail
                        go_still_tail 17, (by kernel_rfl)
                        change wpList _ _ _ _ _ w10.drew
                        have HFD := Lib.hid (HF10.out.below (Below.refl w10.heap.size w10).drew)
                        have fx := HFD.out.rx.free j
                        have cx' := HFD.out.rx.cell (k := j) hj2
                        rw [HQQ.out] at cx'
                        obtain ⟨w11, HW11⟩ : ∃ W, Hid (W = w10.drew.setCell ⟨n1 + 1, j, none⟩ (.int .i64 s9)) := ⟨_, rfl⟩
                        have HF11 : Hid (QF w w11 v rows w.heap.size gn n1 (n1 + 1) x y zs (putZ nx j n)) := by
                          have h9 := HFD.out.set j (wrap64 (el nx j + n))
                          rw [HW11.out, ← HS9.out, ← HQQ.out]
                          exact h9
                        clear f1 f2 f3 cx
                        generalize w10.drew = wD at *
                        clear hqw hqw2 hji hji2 hxw
                        have HE : Hid (QF w w11 v rows w.heap.size gn n1 (n1 + 1) x y zs (st (k + 1))) := by rw [HX0.out]; exact HF11.out
                        rw [HW11.out] at HE
                        go_wp2_with fail
                        go_roundw
                        case rel => exact ⟨k + 1, by omega, by go_num, HE⟩
                        case measure => simp [intOf]; omega
                      · rw [hb2] at z4 HX0
                        have z4' : (bits .and .i64 ((k : Int) / 2 ^ (x + 1)) 1 == 0) = false := by rw [show (2 : Int) ^ (x + 1) = ((2 ^ (x + 1) : Nat) : Int) by simp, z4]; rfl
                        clear z3 z4 z5
                        have HE : Hid (QF w w10 v rows w.heap.size gn n1 (n1 + 1) x y zs (st (k + 1))) := by rw [HX0.out]; exact HF10.out
                        go_wp2_with fail
                        go_roundw
                        case rel => exact ⟨k + 1, by omega, by go_num, HE⟩
                        case measure => simp [intOf]; omega
                  · have hs2 : spotB 7 ((x : Int) + 1) y = false := by
                      cases hs : spotB 7 ((x : Int) + 1) y
                      · rfl
                      · have := (spotB_iff _ _ _).1 hs; omega
                    have hr0 : r = false := by rw [← HR.out]; simp [hasC, hx8]
                    subst hr0
                    refine (specCellOk_any ((x : Int) + 1) (y : Int) _).mono ?_
                    rintro e w9 ⟨rfl, hb9⟩
                    rw [hs2]
                    clear g8a g8b
                    have HK9 := Lib.hid (blk_below HK8.out hb9)
                    have g9a : w9.cell? ⟨w7.heap.size, 0, none⟩ = some (.int .i64 ((x : Int) + 1)) := by rw [blk_cell HK9.out]; rfl
                    have g9b : w9.cell? ⟨w7.heap.size, 1, none⟩ = some (.int .i64 (y : Int)) := by rw [blk_cell HK9.out]; rfl
                    have HF9 := Lib.hid (HF8.out.below hb9)
                    clear f1 f2 f3
                    obtain ⟨f1, f2, f3⟩ := HF9.out.cells
                    have HE : Hid (QF w w9 v rows w.heap.size gn n1 (n1 + 1) x y zs (st (k + 1))) := by rw [HX0.out]; exact HF9.out
                    go_wp2_with fail
                    go_roundw
                    case rel => exact ⟨k + 1, by omega, by go_num, HE⟩
                    case measure => simp [intOf]; omega
            · rw [hb] at hsh
              have HFR : Hid (wrap64 ((k : Int) - wrap64 (2 ^ x)) = ((k - 2 ^ x : Nat) : Int)) := by
                unfold Hid
                rw [shl_q x hx7]
                have h1 : 2 ^ x ≤ k := Nat.ge_two_pow_of_testBit hb
                generalize (2 ^ x : Nat) = p at *
                unfold wrap64; omega
              cases h
              · have HX : Hid (st (k + 1) = nx) := by unfold Hid; rw [HIN.out, inZ, if_neg hn0]; simp [hb]
                clear hn0
                go_wp2_with fail
                rw [HFR.out]
                obtain ⟨B5, hB5, hr5⟩ := HF4.out.rd
                refine (l03Has_yes v rows B5 _ hr5 (Nat.le_trans hB5 HF4.out.big.size) hok x y (by omega) (by omega)).mono ?_
                rintro e w5 ⟨rfl, hb5⟩
                rw [HH1.out]
                clear hr5
                have HF5 := Lib.hid (HF4.out.below hb5)
                clear f1 f2 f3
                obtain ⟨f1, f2, f3⟩ := HF5.out.cells
                have HE : Hid (QF w w5 v rows w.heap.size gn n1 (n1 + 1) x y zs (st (k + 1))) := by rw [HX.out]; exact HF5.out
                go_wp2_with fail
                go_roundw
                case rel => exact ⟨k + 1, by omega, by go_num, HE⟩
                case measure => simp [intOf]; omega
              · have HX : Hid (st (k + 1) = putZ nx (k - 2 ^ x) n) := by unfold Hid; rw [HIN.out, inZ, if_neg hn0]; simp [hb]
                clear hn0
                go_wp2_with fail
                rw [HFR.out]
                obtain ⟨B5, hB5, hr5⟩ := HF4.out.rd
                refine (l03Has_yes v rows B5 _ hr5 (Nat.le_trans hB5 HF4.out.big.size) hok x y (by omega) (by omega)).mono ?_
                rintro e w5 ⟨rfl, hb5⟩
                rw [HH1.out]
                clear hr5
                have HF5 := Lib.hid (HF4.out.below hb5)
                clear f1 f2 f3
                obtain ⟨f1, f2, f3⟩ := HF5.out.cells
                obtain ⟨j, HJ⟩ : ∃ j : Nat, Hid (k - 2 ^ x = j) := ⟨_, rfl⟩
                have hj2 : j < 256 := by rw [← HJ.out]; exact Nat.lt_of_le_of_lt (Nat.sub_le _ _) hlt
                rw [HJ.out] at HX ⊢
                clear HFR
                have hj0 : (0 : Int) ≤ (j : Int) := by omega
                have hj1 : (j : Int) < 256 := by omega
                have cx := HF5.out.rx.cell (k := j) hj2
                have fx := HF5.out.rx.free (j)
                have HE : Hid (QF w (w5.setCell ⟨n1 + 1, j, none⟩ (.int .i64 (wrap64 (el nx (j) + n)))) v rows w.heap.size gn n1 (n1 + 1) x y zs (st (k + 1))) := by rw [HX.out]; exact HF5.out.set (j) _
                generalize el nx (j) = q at *
                go_wp2_with fail
                go_roundw
                case rel => exact ⟨k + 1, by omega, by go_num, HE⟩
                case measure => simp [intOf]; omega
        · have ht : decide ((k : Int) < 256) = false := by simp only [decide_eq_false_iff_not]; omega
          obtain rfl : k = 256 := by omega
          rw [← HS.out] at HF4
          have HFN : Hid (QB w wr v rows w.heap.size (n1 + 1) (pf (i + 1))) := by
            have h := HF4.out
            rw [HZS2.out]
            exact ⟨h.er, h.rx, h.big, h.rd, h.l1, h.lx⟩
          go_wp2_with fail
          go_roundw
          case rel => exact ⟨i + 1, _, by omega, by go_num, rfl, HFN⟩
          case measure => simp [intOf]; omega
    · have hti : decide ((i : Int) < 64) = false := by simp only [decide_eq_false_iff_not]; omega
      obtain rfl : i = 64 := by omega
      have cq := HQ.out.rn.cell (k := 0) (by omega)
      have HF : Hid (el (pf 64) 0 = res) := (HFZ.out _ rfl).symm
      go_wp2_with fail
      go_ret
      exact ⟨ret_int HF.out, HQ.out.big⟩
end Go.Proofs.Ytehnbalbpfmijaa

namespace Go.Proofs.Ytehnbalbpfmijaa
open Go.RowKit

/-- A contract that leaves the world alone, for a region that draws. -/
theorem quietLeft {P : Program} {f : FuncId} {args : Array Value} {w : World} {n : Nat} {v : Value}
    (h : Calls P f args (w.drewN n) fun e w' => e = .returned v ∧ w.drewN n = w') : Calls P f args (w.drewN n) fun e w'' => e = .returned v ∧ ∃ m, w'' = w.drewN m :=
  h.mono fun _ _ ⟨he, hm⟩ => ⟨he, n, hm.symm⟩

theorem three_ : ∀ b1 b2 b3 : Bool, b1 = false ∨ (b1 = true ∧ b2 = false) ∨ (b1 = true ∧ b2 = true ∧ b3 = false) ∨ (b1 = true ∧ b2 = true ∧ b3 = true) := by decide

end Go.Proofs.Ytehnbalbpfmijaa

namespace Go.Proofs.Ytehnbalbpfmijaa
open Go.RowKit
set_option linter.unusedVariables false

theorem RectangleCount_yes (a b : Nat) (ha : 1 ≤ a ∧ a ≤ 8) (hb : 1 ≤ b ∧ b ≤ 8) (w : World) :
    Calls Try.prog 69 #[.int .i64 (a : Int), .int .i64 (b : Int)] w fun e w' => e = .returned (.int .i64 (rcZ a b)) ∧ Below w.heap.size w w' := by
  have t1 : inB (a : Int) 1 8 = true := inB_true (by omega) (by omega)
  have t2 : inB (b : Int) 1 8 = true := inB_true (by omega) (by omega)
  have HOK := Lib.hid (rectZ_ok a b ha.2 hb.2)
  obtain ⟨res, HRES⟩ : ∃ r, Hid (rcZ a b = r) := ⟨_, rfl⟩
  have HE : Hid (tilZ (rectZ a b) = res) := by unfold Hid; rw [← HRES.out]; simp [tilZ, HOK.out, rcZ]
  rw [HRES.out]
  have HT := Lib.hid (Rectangle_yes a b ha hb)
  generalize rectZ a b = zs at *
  clear HRES
  go_enter Try.func69, Try.ntmps69
  go_wp2_with (go_at_call 70; refine (within_any _ _ _ _).mono ?_; rintro e w' ⟨rfl, rfl⟩; first | rw [t1] | rw [t2])
  refine (HT.out w).mono ?_
  rintro e w1 ⟨u, rfl, hr1, hb1⟩
  have HC := Lib.hid (CountTilings_any u zs w1.heap.size w1 hr1 (Nat.le_refl _))
  rw [HE.out] at HC
  have HB1 := Lib.hid hb1
  clear hr1 hb1
  go_wp2_with fail
  refine HC.out.mono ?_
  rintro e w2 ⟨rfl, hb2⟩
  go_wp2_with fail
  go_ret
  exact ⟨rfl, HB1.out.trans (hb2.mono HB1.out.size)⟩

theorem areFew_any (a b : Int) (w : World) : Calls Try.prog 58 #[.int .i64 a, .int .i64 b] w fun e w' => e = .returned (.bool (fewB a b)) ∧ w = w' := by
  cases h1 : inB a 1 6
  · have HF : Hid (false = fewB a b) := by unfold Hid; simp [fewB, h1]
    go_enter Try.func58, Try.ntmps58
    go_wp2_with (go_at_call 70; refine (within_any _ _ _ _).mono ?_; rintro e w' ⟨rfl, rfl⟩; rw [h1])
    go_ret
    exact ⟨ret_bool HF.out, rfl⟩
  · cases h2 : inB b 1 6
    · have HF : Hid (false = fewB a b) := by unfold Hid; simp [fewB, h1, h2]
      go_enter Try.func58, Try.ntmps58
      go_wp2_with (go_at_call 70; refine (within_any _ _ _ _).mono ?_; rintro e w' ⟨rfl, rfl⟩; first | rw [h1] | rw [h2])
      go_ret
      exact ⟨ret_bool HF.out, rfl⟩
    · have ha := (inB_iff _ _ _).1 h1
      have hb := (inB_iff _ _ _).1 h2
      have HF : Hid (decide (a * b ≤ 30) = fewB a b) := by unfold Hid; simp [fewB, h1, h2]
      obtain ⟨n, rfl⟩ := Int.eq_ofNat_of_zero_le (show 0 ≤ a by omega)
      obtain ⟨m, rfl⟩ := Int.eq_ofNat_of_zero_le (show 0 ≤ b by omega)
      have hmul : (n : Int) * (m : Int) = ((n * m : Nat) : Int) := by simp
      have h36 : n * m ≤ 36 := Nat.mul_le_mul (show n ≤ 6 by omega) (show m ≤ 6 by omega)
      have hm0 : 0 ≤ (n : Int) * (m : Int) := by omega
      have hm1 : (n : Int) * (m : Int) ≤ 36 := by omega
      clear hmul h36
      go_enter Try.func58, Try.ntmps58
      go_wp2_with (go_at_call 70; refine (within_any _ _ _ _).mono ?_; rintro e w' ⟨rfl, rfl⟩; first | rw [h1] | rw [h2])
      go_ret
      exact ⟨ret_bool HF.out, rfl⟩
end Go.Proofs.Ytehnbalbpfmijaa

namespace Go.Proofs.Ytehnbalbpfmijaa
open Go.RowKit
set_option linter.unusedVariables false

def castI (l : List Nat) : List Int := l.map fun (x : Nat) => (x : Int)
theorem castI_len (l : List Nat) : (castI l).length = l.length := by simp [castI]
theorem castI_el (l : List Nat) (k : Nat) (h : k < l.length) : el (castI l) k = ((l[k] : Nat) : Int) := by simp [castI, el, h]
theorem castI_app (l : List Nat) (x : Nat) : castI (l ++ [x]) = castI l ++ [(x : Int)] := by simp [castI]
theorem sbit_tab : ((List.range 32).all fun s => (List.range 6).all fun k => (bits .and .i64 ((s : Int) / 2 ^ k) 1 == 1) == s.testBit k) = true := by decide +kernel
theorem sbit (s k : Nat) (hs : s < 32) (hk : k < 6) : (bits .and .i64 ((s : Int) / 2 ^ k) 1 == 1) = s.testBit k := by
  have h := sbit_tab
  rw [List.all_eq_true] at h
  have h := h s (by simpa using hs)
  rw [List.all_eq_true] at h
  have h := h k (by simpa using hk)
  simpa using h
def RetParts (w : World) (l : List Nat) (n : Int) (e : Ending) (w' : World) : Prop := ∃ v, e = .returned (.tuple #[v, .int .i64 n]) ∧ RdI w' w'.heap.size v (castI l) ∧ Below w.heap.size w w'
def RetPartsS (w : World) (l : List Nat) (e : Ending) (w' : World) : Prop := ∃ v, e = .returned v ∧ RdI w' w'.heap.size v (castI l) ∧ Below w.heap.size w w'

/-- The parts and the last line ahead of place k. -/
def pgZ (len s k : Nat) : List Nat := if k ≤ len then (ptTo s (k - 1)).1 else ptZ len s
def plZ (len s k : Nat) : Nat := if k ≤ len then (ptTo s (k - 1)).2 else len
theorem pg_yes (len s k : Nat) (h1 : 1 ≤ k) (hk : k ≤ len) (h : k = len ∨ s.testBit (k - 1) = true) : pgZ len s (k + 1) = pgZ len s k ++ [k - plZ len s k] ∧ plZ len s (k + 1) = k := by
  unfold pgZ plZ
  rw [if_pos hk, if_pos hk]
  by_cases e : k = len
  · subst e
    rw [if_neg (by omega), if_neg (by omega)]
    exact ⟨rfl, rfl⟩
  · have hb : s.testBit (k - 1) = true := by rcases h with h | h; exact absurd h e; exact h
    rw [if_pos (by omega), if_pos (by omega)]
    obtain ⟨j, rfl⟩ : ∃ j, k = j + 1 := ⟨k - 1, by omega⟩
    simp only [Nat.add_sub_cancel] at hb ⊢
    rw [ptTo, if_pos hb]
    exact ⟨rfl, rfl⟩
theorem pg_no (len s k : Nat) (h1 : 1 ≤ k) (hk : k < len) (h : s.testBit (k - 1) = false) : pgZ len s (k + 1) = pgZ len s k ∧ plZ len s (k + 1) = plZ len s k := by
  unfold pgZ plZ
  rw [if_pos (by omega), if_pos (by omega), if_pos (by omega), if_pos (by omega)]
  obtain ⟨j, rfl⟩ : ∃ j, k = j + 1 := ⟨k - 1, by omega⟩
  simp only [Nat.add_sub_cancel] at h ⊢
  rw [ptTo, if_neg (by rw [h]; simp)]
  exact ⟨rfl, rfl⟩
theorem pl_le (len s k : Nat) (h1 : 1 ≤ k) (hk : k ≤ len) : plZ len s k ≤ k ∧ (pgZ len s k).length ≤ k := by
  unfold plZ pgZ
  rw [if_pos hk, if_pos hk]
  have := ptTo_le s (k - 1)
  omega
set_option maxHeartbeats 4000000 in
theorem parts_any (len s : Nat) (h1 : 1 ≤ len) (h6 : len ≤ 6) (hs : s < 32) (w : World) :
    Calls Try.prog 68 #[.int .i64 (len : Int), .int .i64 (s : Int)] w (RetParts w (ptZ len s) (((ptZ len s).length : Int) - 1)) := by
  have hp1 : pgZ len s 1 = [] := by unfold pgZ; rw [if_pos h1]; rfl
  have hp2 : plZ len s 1 = 0 := by unfold plZ; rw [if_pos h1]; rfl
  have hp3 : pgZ len s (len + 1) = ptZ len s := by unfold pgZ; rw [if_neg (by omega)]
  have hp4 := (pt_at h1 h6 hs).2.2.1
  have hp5 := (pt_at h1 h6 hs).2.2.2
  obtain ⟨pz, HPZ⟩ : ∃ l, Hid (ptZ len s = l) := ⟨_, rfl⟩
  rw [HPZ.out] at hp3 hp4 hp5 ⊢
  have HYES := Lib.hid (pg_yes len s)
  have HNO := Lib.hid (pg_no len s)
  have HLE := Lib.hid (pl_le len s)
  generalize pgZ len s = pg at *
  generalize plZ len s = pl at *
  have HA0 : Hid (Acc elInt w w.heap.size (w.alloc (.cells #[] 3)) (.slice (some ⟨w.heap.size, 0, none⟩) 0 0) (castI (pg 1))) := by rw [hp1]; exact Acc.start w
  have HP1 := Lib.hid hp1; have HP2 := Lib.hid hp2; have HP3 := Lib.hid hp3; have HP4 := Lib.hid hp4; have HP5 := Lib.hid hp5
  clear hp1 hp2 hp3 hp4 hp5 HPZ
  go_enter Try.func68, Try.ntmps68
  go_wp2_with fail
  go_loopw [6, 7, 8, 9] (fun o la n s wr => ∃ (k : Nat) (v : Value) (l c : Nat), 1 ≤ k ∧ k ≤ len + 1 ∧ s = .int .i64 k ∧ v = o ∧ la = .int .i64 l ∧ n = .int .i64 c ∧ Hid (l = pl k) ∧ Hid (c = (pg k).length) ∧ Hid (Acc elInt w w.heap.size wr v (castI (pg k)))) (fun _ _ _ s _ => len + 1 - (intOf s).toNat)
  case atStart => exact ⟨1, _, 0, 0, Nat.le_refl _, by omega, rfl, rfl, rfl, rfl, HP2.out.symm, (by rw [HP1.out]; rfl), HA0⟩
  case round =>
    obtain ⟨k, v, l, c, hk1, hk2, rfl, rfl, rfl, rfl, HL, HC, HA⟩ := hrel
    by_cases hle : k ≤ len
    · have ht : decide ((k : Int) ≤ (len : Int)) = true := by simp only [decide_eq_true_eq]; omega
      have hlb := HLE.out k hk1 hle
      rw [← HL.out, ← HC.out] at hlb
      obtain ⟨hlb1, hlb2⟩ := hlb
      have hkz : ((k : Int) - 1).toNat = k - 1 := by omega
      by_cases hyes : k = len ∨ s.testBit (k - 1) = true
      · obtain ⟨y1, y2⟩ := HYES.out k hk1 hle hyes
        have HY1 : Hid (castI (pg (k + 1)) = castI (pg k) ++ [(k : Int) - (l : Int)]) := by
          unfold Hid
          rw [y1, castI_app, ← HL.out]
          congr 2
          omega
        have HY2 : Hid (k = pl (k + 1)) := y2.symm
        have HY3 : Hid (c + 1 = (pg (k + 1)).length) := by unfold Hid; rw [y1, List.length_append, HC.out]; rfl
        have HCL : Hid ((castI (pg k)).length = c) := by unfold Hid; rw [castI_len, HC.out]
        clear y1 y2
        by_cases e : k = len
        · have te : ((k : Int) == (len : Int)) = true := by simp [e]
          clear hyes e
          go_wp2_with (at_builtin; refine wpList_push okInt rfl _ _ rfl HA.out rfl ((k : Int) - (l : Int)) _ rfl _ rfl (by simp) (by have := HCL.out; omega) ?_; intro v2 w2 HA2 HG2)
          go_roundw
          case rel => exact ⟨k + 1, _, k, c + 1, by omega, by omega, by go_num, rfl, rfl, by go_num, HY2, HY3, by (rw [HY1.out]; exact HA2)⟩
          case measure => simp [intOf]; omega
        · have te : ((k : Int) == (len : Int)) = false := by rw [beq_eq_false_iff_ne]; omega
          have hb : s.testBit (k - 1) = true := by rcases hyes with h | h; exact absurd h e; exact h
          have hsb := sbit s (k - 1) hs (by omega)
          rw [hb] at hsb
          clear hyes hb
          go_wp2_with (at_builtin; refine wpList_push okInt rfl _ _ rfl HA.out rfl ((k : Int) - (l : Int)) _ rfl _ rfl (by simp) (by have := HCL.out; omega) ?_; intro v2 w2 HA2 HG2)
          go_roundw
          case rel => exact ⟨k + 1, _, k, c + 1, by omega, by omega, by go_num, rfl, rfl, by go_num, HY2, HY3, by (rw [HY1.out]; exact HA2)⟩
          case measure => simp [intOf]; omega
      · have e : k ≠ len := fun e => hyes (.inl e)
        have hb : s.testBit (k - 1) = false := by cases h : s.testBit (k - 1); rfl; exact absurd (.inr h) hyes
        obtain ⟨y1, y2⟩ := HNO.out k hk1 (by omega) hb
        have te : ((k : Int) == (len : Int)) = false := by rw [beq_eq_false_iff_ne]; omega
        have hsb := sbit s (k - 1) hs (by omega)
        rw [hb] at hsb
        rw [← y1] at HA HC
        rw [← y2] at HL
        clear hyes hb y1 y2
        go_wp2_with fail
        go_roundw
        case rel => exact ⟨k + 1, _, l, c, by omega, by omega, by go_num, rfl, rfl, rfl, HL, HC, HA⟩
        case measure => simp [intOf]; omega
    · have ht : decide ((k : Int) ≤ (len : Int)) = false := by simp only [decide_eq_false_iff_not]; omega
      have hke : k = len + 1 := by omega
      have HF : Hid (pg k = pz) := by rw [hke]; exact HP3.out
      rw [HF.out] at HC HA
      have hc1 : 1 ≤ c := by have := HC.out; have := HP5.out; omega
      have hc6 : c ≤ 6 := by have := HC.out; have := HP4.out; omega
      have HC2 : Hid ((c : Int) - 1 = (pz.length : Int) - 1) := by unfold Hid; rw [HC.out]
      clear hke
      go_wp2_with fail
      go_ret2
      exact ⟨_, congrArg (fun z : Int => Ending.returned (.tuple #[v, .int .i64 z])) HC2.out, (ownF_int.1 HA.out.1).rd, HA.out.2.1⟩

end Go.Proofs.Ytehnbalbpfmijaa

namespace Go.Proofs.Ytehnbalbpfmijaa
open Go.RowKit
set_option linter.unusedVariables false

/-- A slice of lengths, read. -/
theorem RdI.nat {w : World} {B : Nat} {v : Value} {l : List Nat} (h : RdI w B v (castI l)) : ∃ A c, v = .slice A l.length c ∧ l.length ≤ c ∧ c ≤ maxLen ∧ ∀ k, (hk : k < l.length) → ∃ ad, A = some ad ∧ ad.block < B ∧ w.cell? (ad.add k) = some (.int .i64 ((l[k] : Nat) : Int)) := by
  obtain ⟨A, c, e, h1, h2, h3⟩ := h
  rw [castI_len] at e h1
  refine ⟨A, c, e, h1, h2, fun k hk => ?_⟩
  obtain ⟨ad, e1, e2, e3⟩ := h3.int (k := k) (by rw [castI_len]; exact hk)
  refine ⟨ad, e1, e2, ?_⟩
  rw [e3]; simp [castI]
theorem pow_wrap (n : Nat) (h : n ≤ 5) : wrap64 ((2 : Int) ^ n) = ((2 ^ n : Nat) : Int) ∧ 2 ^ n ≤ 32 := by
  have h1 : (2 ^ n : Nat) ≤ 2 ^ 5 := Nat.pow_le_pow_right (by omega) h
  have e : ((2 : Int) ^ n) = ((2 ^ n : Nat) : Int) := by simp
  rw [e]
  generalize (2 ^ n : Nat) = p at *
  simp at h1
  refine ⟨?_, h1⟩
  unfold wrap64; omega
theorem par_odd (l r : Nat) (h : (l + r) % 2 = 1) : (((l : Int) - 1 + ((r : Int) - 1)) % 2 == 1) = true := by rw [beq_iff_eq]; omega
theorem par_even (l r : Nat) (h : ¬ (l + r) % 2 = 1) : (((l : Int) - 1 + ((r : Int) - 1)) % 2 == 1) = false := by rw [beq_eq_false_iff_ne]; omega

set_option maxRecDepth 100000 in
set_option maxHeartbeats 8000000 in
theorem CountFaultless_yes (a b : Nat) (ha : 1 ≤ a ∧ a ≤ 6) (hb : 1 ≤ b ∧ b ≤ 6) (hab : a * b ≤ 30) (w : World) (hf : fewB a b = true) :
    Calls Try.prog 19 #[.int .i64 (a : Int), .int .i64 (b : Int)] w fun e w' => e = .returned (.int .i64 (outS a b (2 ^ (a - 1)))) ∧ Below w.heap.size w w' := by
  obtain ⟨hPA1, hPA2⟩ := pow_wrap (a - 1) (by omega)
  obtain ⟨hPB1, hPB2⟩ := pow_wrap (b - 1) (by omega)
  obtain ⟨PA, HPA⟩ : ∃ p : Nat, Hid ((2 : Nat) ^ (a - 1) = p) := ⟨_, rfl⟩
  obtain ⟨PB, HPB⟩ : ∃ p : Nat, Hid ((2 : Nat) ^ (b - 1) = p) := ⟨_, rfl⟩
  obtain ⟨os, HOS⟩ : ∃ f : Nat → Int, Hid (f = outS a b) := ⟨_, rfl⟩
  have HO0 : Hid (os 0 = 0) := by rw [HOS.out]; rfl
  have HOSS : Hid (∀ s, os (s + 1) = inT a b s (os s) PB) := by rw [HOS.out, ← HPB.out]; exact fun s => rfl
  rw [HPA.out] at hPA1 hPA2 ⊢
  rw [HPB.out] at hPB1 hPB2
  rw [← HOS.out]
  clear HOS
  have HWA := Lib.hid hPA1; have HWB := Lib.hid hPB1
  clear hPA1 hPB1
  have haz : ((a : Int) - 1).toNat = a - 1 := by omega
  have hbz : ((b : Int) - 1).toNat = b - 1 := by omega
  go_enter Try.func19, Try.ntmps19
  go_wp2_with fail
  refine (areFew_any _ _ _).mono ?_
  rintro e w1 ⟨rfl, rfl⟩
  rw [hf]
  go_wp2_with fail
  rw [HWA.out]
  go_loopw [5, 24] (fun o s wr => ∃ (k : Nat), k ≤ PA ∧ s = .int .i64 k ∧ o = .int .i64 (os k) ∧ Hid (Below w.heap.size w wr)) (fun _ s _ => PA - (intOf s).toNat)
  case atStart => exact ⟨0, Nat.zero_le _, rfl, by rw [HO0.out], Below.refl _ _⟩
  case round =>
    obtain ⟨s, hs, rfl, rfl, HB⟩ := hrel
    by_cases hlt : s < PA
    · have ht : decide ((s : Int) < (PA : Int)) = true := by simp only [decide_eq_true_eq]; omega
      have HSS := Lib.hid (HOSS.out s)
      generalize os s = o0 at *
      go_wp2_with fail
      rw [HWB.out]
      obtain ⟨it, HIT⟩ : ∃ f : Nat → Int, Hid (f = inT a b s o0) := ⟨_, rfl⟩
      have HI0 : Hid (it 0 = o0) := by rw [HIT.out]; rfl
      have HIS : Hid (∀ t, it (t + 1) = wrap64 (it t + termZ a b s t)) := by rw [HIT.out]; exact fun t => rfl
      rw [← HIT.out] at HSS
      clear HIT
      obtain ⟨wo, HWO⟩ : ∃ wo, Hid (wo = wr) := ⟨_, rfl⟩
      have HB0 : Hid (Below w.heap.size w wo) := by rw [HWO.out]; exact HB.out
      rw [← HWO.out]
      clear HB HWO
      go_loopw [5, 30] (fun o s wr => ∃ (k : Nat), k ≤ PB ∧ s = .int .i64 k ∧ o = .int .i64 (it k) ∧ Hid (Below w.heap.size w wr)) (fun _ s _ => PB - (intOf s).toNat)
      case atStart => exact ⟨0, Nat.zero_le _, rfl, by rw [HI0.out], HB0⟩
      case round =>
        obtain ⟨t, hts, rfl, rfl, HB⟩ := hrel
        by_cases hltt : t < PB
        · have htt : decide ((t : Int) < (PB : Int)) = true := by simp only [decide_eq_true_eq]; omega
          have HIS1 := Lib.hid (HIS.out t)
          generalize it t = o1 at *
          obtain ⟨c1, c2, c3, c4⟩ := pt_at ha.1 ha.2 (show s < 32 by omega)
          obtain ⟨d1, d2, d3, d4⟩ := pt_at hb.1 hb.2 (show t < 32 by omega)
          obtain ⟨p1, p2, p3⟩ := prod_bd ha hb hab (show s < 32 by omega) (show t < 32 by omega)
          have HTM : Hid (termZ a b s t = if ((ptZ a s).length + (ptZ b t).length) % 2 = 1 then -prodZ a b s t else prodZ a b s t) := rfl
          have HC := Lib.hid (parts_any a s ha.1 ha.2 (by omega))
          have HD := Lib.hid (parts_any b t hb.1 hb.2 (by omega))
          generalize prodZ a b s t = q at *
          generalize termZ a b s t = tm at *
          generalize ptZ a s = cols at *
          generalize ptZ b t = rows at *
          have HC2 := Lib.hid c2; have HD2 := Lib.hid d2; have HP1 := Lib.hid p1
          clear c1 c2 d1 d2 p1
          go_wp2_with fail
          refine (HC.out _).mono ?_
          rintro e w2 ⟨v2, rfl, hr2, hb2⟩
          have HB2 := Lib.hid (HB.out.trans (hb2.mono HB.out.size))
          have HR2 := Lib.hid hr2
          clear hb2 hr2
          go_wp2_with fail
          refine (HD.out _).mono ?_
          rintro e w3 ⟨v3, rfl, hr3, hb3⟩
          have HB3 := Lib.hid (HB2.out.trans (hb3.mono HB2.out.size))
          have HR3 := Lib.hid hr3
          have HR2' := Lib.hid (HR2.out.below hb3)
          have HSZ : Hid (w2.heap.size ≤ w3.heap.size) := hb3.size
          obtain ⟨A2, x2, rfl, y21, y22, G2⟩ := HR2'.out.nat
          obtain ⟨A3, x3, rfl, y31, y32, G3⟩ := HR3.out.nat
          unfold maxLen at y22 y32
          have HG2 := Lib.hid G2; have HG3 := Lib.hid G3
          clear hb3 hr3 G2 G3 HR2 HB2
          go_wp2_with fail
          go_loopw [12, 47] (fun n i wr => ∃ (k : Nat), k ≤ cols.length ∧ i = .int .i64 k ∧ n = .int .i64 (colF mulI (cols.take k) rows 1) ∧ Hid (Below w3.heap.size w3 wr)) (fun _ i _ => cols.length - (intOf i).toNat)
          case atStart => exact ⟨0, Nat.zero_le _, rfl, rfl, Below.refl _ _⟩
          case round =>
            obtain ⟨i, hi, rfl, rfl, HBI⟩ := hrel
            by_cases hli : i < cols.length
            · have hti : decide ((i : Int) < (cols.length : Int)) = true := by simp only [decide_eq_true_eq]; omega
              obtain ⟨ad, rfl, had, hc⟩ := HG2.out i hli
              have hc' := (HBI.out.cell (p := ad.add i) (by rw [addBlock]; have := HSZ.out; omega)).trans hc
              have hi0 : (0 : Int) ≤ (i : Int) := by omega
              have hi1 : (i : Int) < (cols.length : Int) := by omega
              have HTK := Lib.hid (colF_take mulI cols rows 1 i hli)
              have hcb := HC2.out _ (List.getElem_mem hli)
              generalize colF mulI (cols.take i) rows 1 = n0 at *
              generalize cols[i] = c at *
              obtain ⟨wi, HWI⟩ : ∃ wo, Hid (wo = wr) := ⟨_, rfl⟩
              have HBI0 : Hid (Below w3.heap.size w3 wi) := by rw [HWI.out]; exact HBI.out
              clear hc
              go_wp2_with fail
              rw [← HWI.out]
              clear HBI HWI hc'
              go_loopw [12, 53] (fun n i wr => ∃ (k : Nat), k ≤ rows.length ∧ i = .int .i64 k ∧ n = .int .i64 (rowF mulI c (rows.take k) n0) ∧ Hid (Below w3.heap.size w3 wr)) (fun _ i _ => rows.length - (intOf i).toNat)
              case atStart => exact ⟨0, Nat.zero_le _, rfl, rfl, HBI0⟩
              case round =>
                obtain ⟨j, hj, rfl, rfl, HBJ⟩ := hrel
                by_cases hlj : j < rows.length
                · have htj : decide ((j : Int) < (rows.length : Int)) = true := by simp only [decide_eq_true_eq]; omega
                  obtain ⟨ad3, rfl, had3, hc3⟩ := HG3.out j hlj
                  have hc3' := (HBJ.out.cell (p := ad3.add j) (by rw [addBlock]; exact had3)).trans hc3
                  have hj0 : (0 : Int) ≤ (j : Int) := by omega
                  have hj1 : (j : Int) < (rows.length : Int) := by omega
                  have HTJ := Lib.hid (rowF_take mulI c rows n0 j hlj)
                  have hrb := HD2.out _ (List.getElem_mem hlj)
                  generalize rowF mulI c (rows.take j) n0 = n1 at *
                  generalize rows[j] = r at *
                  clear hc3
                  by_cases hn : 0 < n1
                  · have HRC := Lib.hid (RectangleCount_yes c r (by omega) (by omega))
                    have HM : Hid (mulI n1 (rcZ c r) = wrap64 (n1 * rcZ c r)) := by unfold Hid mulI; rw [if_pos hn]
                    generalize rcZ c r = rc at *
                    have htn : decide (0 < n1) = true := by simp [hn]
                    clear hn
                    go_wp2_with fail
                    refine (HRC.out _).mono ?_
                    rintro e w6 ⟨rfl, hb6⟩
                    have HB6 := Lib.hid (HBJ.out.trans (hb6.mono HBJ.out.size))
                    clear hb6
                    go_wp2_with fail
                    go_roundw
                    case rel => exact ⟨j + 1, by omega, by go_num, by rw [HTJ.out, HM.out], HB6⟩
                    case measure => simp [intOf]; omega
                  · have HM : Hid (mulI n1 (rcZ c r) = n1) := by unfold Hid mulI; rw [if_neg hn]
                    have htn : decide (0 < n1) = false := by simp; omega
                    clear hn
                    go_wp2_with fail
                    go_roundw
                    case rel => exact ⟨j + 1, by omega, by go_num, by rw [HTJ.out, HM.out], HBJ⟩
                    case measure => simp [intOf]; omega
                · have htj : decide ((j : Int) < (rows.length : Int)) = false := by simp only [decide_eq_false_iff_not]; omega
                  have HF : Hid (rowF mulI c (rows.take j) n0 = colF mulI (cols.take (i + 1)) rows 1) := by unfold Hid; rw [HTK.out, List.take_of_length_le (by omega)]
                  rw [HF.out]
                  go_wp2_with fail
                  go_roundw
                  case rel => exact ⟨i + 1, by omega, by go_num, rfl, HBJ⟩
                  case measure => simp [intOf]; omega
            · have hti : decide ((i : Int) < (cols.length : Int)) = false := by simp only [decide_eq_false_iff_not]; omega
              have HF : Hid (colF mulI (cols.take i) rows 1 = q) := by unfold Hid; rw [List.take_of_length_le (by omega)]; exact HP1.out
              rw [HF.out]
              have HBE := Lib.hid (HB3.out.trans (HBI.out.mono HB3.out.size))
              clear hi
              by_cases hodd : (cols.length + rows.length) % 2 = 1
              · have hp := par_odd _ _ hodd
                have HTE : Hid (it (t + 1) = wrap64 (o1 + -q)) := by unfold Hid; rw [HIS1.out, HTM.out, if_pos hodd]
                clear hodd
                go_wp2_with fail
                go_roundw
                case rel => exact ⟨t + 1, by omega, by go_num, by rw [HTE.out], HBE⟩
                case measure => simp [intOf]; omega
              · have hp := par_even _ _ hodd
                have HTE : Hid (it (t + 1) = wrap64 (o1 + q)) := by unfold Hid; rw [HIS1.out, HTM.out, if_neg hodd]
                clear hodd
                go_wp2_with fail
                go_roundw
                case rel => exact ⟨t + 1, by omega, by go_num, by rw [HTE.out], HBE⟩
                case measure => simp [intOf]; omega
        · have htt : decide ((t : Int) < (PB : Int)) = false := by simp only [decide_eq_false_iff_not]; omega
          have HF : Hid (it t = os (s + 1)) := by unfold Hid; rw [HSS.out, show t = PB by omega]
          rw [HF.out]
          go_wp2_with fail
          go_roundw
          case rel => exact ⟨s + 1, by omega, by go_num, rfl, HB⟩
          case measure => simp [intOf]; omega
    · have ht : decide ((s : Int) < (PA : Int)) = false := by simp only [decide_eq_false_iff_not]; omega
      have HF : Hid (os s = os PA) := by unfold Hid; rw [show s = PA by omega]
      go_wp2_with fail
      go_ret
      exact ⟨ret_int HF.out, HB.out⟩
end Go.Proofs.Ytehnbalbpfmijaa

namespace Go.Proofs.Ytehnbalbpfmijaa
open Go.RowKit
set_option linter.unusedVariables false

theorem mem_sum : ∀ (l : List Nat) (x : Nat), x ∈ l → x ≤ l.sum
  | y :: l, x, h => by
    rw [List.sum_cons]
    rcases List.mem_cons.1 h with rfl | h
    · omega
    · have := mem_sum l x h; omega
/-- The table. -/
def TRow (w : World) (g : Nat) (T : List Int) : Prop := w.heap[g]? = some (.cells (rwC T) 3 (0, 0)) ∧ T.length = 49
theorem TRow.cell {w : World} {g : Nat} {T : List Int} (h : TRow w g T) {k : Nat} (hk : k < 49) : w.cell? ⟨g, k, none⟩ = some (.int .i64 (el T k)) := by rw [blk_cell h.1]; exact rwC_get _ _ (by rw [h.2]; exact hk)
theorem TRow.free {w : World} {g : Nat} {T : List Int} (h : TRow w g T) (k : Nat) : w.frozen? ⟨g, k, none⟩ = false := blk_free h.1
theorem TRow.set {w : World} {g : Nat} {T : List Int} (h : TRow w g T) (k : Nat) (z : Int) : TRow (w.setCell ⟨g, k, none⟩ (.int .i64 z)) g (T.set k z) := ⟨by rw [blk_setCell h.1, rwC_set], by simpa using h.2⟩
theorem TRow.below {w w' : World} {g : Nat} {T : List Int} (h : TRow w g T) (hb : Below w.heap.size w w') : TRow w' g T := ⟨blk_below h.1 hb, h.2⟩
def Filled (a b x0 y0 : Nat) (T : List Int) : Prop := ∀ x y, 1 ≤ x → x ≤ a → 1 ≤ y → y ≤ b → (x < x0 ∨ (x = x0 ∧ y < y0)) → el T (x * 7 + y) = rcZ x y
theorem Filled.step {a b x0 y0 : Nat} {T : List Int} (h : Filled a b x0 y0 T) (hl : T.length = 49) (ha : a ≤ 6) (hb : b ≤ 6) (hx : x0 ≤ 6) (hy : y0 ≤ 6) : Filled a b x0 (y0 + 1) (T.set (x0 * 7 + y0) (rcZ x0 y0)) := by
  intro x y h1 h2 h3 h4 h5
  rw [el_set']
  by_cases e : x * 7 + y = x0 * 7 + y0
  · have e1 : x = x0 := by omega
    have e2 : y = y0 := by omega
    subst e1 e2
    rw [if_pos ⟨rfl, by omega⟩]
  · rw [if_neg (fun h9 => e h9.1)]
    exact h x y h1 h2 h3 h4 (by omega)
theorem Filled.row {a b x0 : Nat} {T : List Int} (h : Filled a b x0 (b + 1) T) : Filled a b (x0 + 1) 1 T := fun x y h1 h2 h3 h4 h5 => h x y h1 h2 h3 h4 (by omega)
def zer49 : List Int := List.replicate 49 0
theorem made49 : madeCells #[.int .i64 0] 49 = rwC zer49 := by kernel_rfl
theorem zer49_len : zer49.length = 49 := List.length_replicate

end Go.Proofs.Ytehnbalbpfmijaa

namespace Go.Proofs.Ytehnbalbpfmijaa
open Go.RowKit
set_option linter.unusedVariables false

theorem CountFaultless_any (a b : Int) (w : World) :
    Calls Try.prog 19 #[.int .i64 a, .int .i64 b] w fun e w' => e = .returned (.int .i64 (fltlZ a b)) ∧ Below w.heap.size w w' := by
  cases hf : fewB a b
  · have e0 : fltlZ a b = -1 := by simp [fltlZ, hf]
    rw [e0]; clear e0
    go_enter Try.func19, Try.ntmps19
    go_wp2_with fail
    refine (areFew_any _ _ _).mono ?_
    rintro e w1 ⟨rfl, rfl⟩
    rw [hf]
    go_wp2_with fail
    go_ret
    exact ⟨rfl, Below.refl _ _⟩
  · have h := hf
    unfold fewB at h
    simp only [Bool.and_eq_true, inB_iff, decide_eq_true_eq] at h
    obtain ⟨n, rfl⟩ := Int.eq_ofNat_of_zero_le (show 0 ≤ a by omega)
    obtain ⟨m, rfl⟩ := Int.eq_ofNat_of_zero_le (show 0 ≤ b by omega)
    have hmul : (n : Int) * (m : Int) = ((n * m : Nat) : Int) := by simp
    have e0 : fltlZ n m = outS n m (2 ^ (n - 1)) := by simp [fltlZ, hf]
    rw [e0]
    exact CountFaultless_yes n m (by omega) (by omega) (by omega) w hf
end Go.Proofs.Ytehnbalbpfmijaa

namespace Go.Proofs.Ytehnbalbpfmijaa
open Go.RowKit
set_option linter.unusedVariables false

theorem each_all (w0 : World) (n0 n a b : Nat) : ∀ (d s : Nat) (hd : List Lk), bitsN s < d → s < 18446744073709551616 → hd.length + bitsN s ≤ 100 → EachAt w0 n0 n a b d s hd
  | 0, s, hd, h, _, _ => absurd h (by omega)
  | d + 1, s, hd, h, hl, hh => by
    by_cases hs : s = 0
    · subst hs; exact each_end w0 n0 n a b d hd
    · refine each_step w0 n0 n a b d s hd hs hl (by omega) fun dn hf => ?_
      have h1 := bits_less hs hl hf
      exact each_all w0 n0 n a b d _ _ (by omega) (minN_lt _ _ hl) (by simp; omega)

/-- What each leaves behind. -/
def EachRes (W0 : World) (n0 n a b : Nat) (z : Int) (e : Ending) (w' : World) : Prop := e = .returned (.tuple #[]) ∧ ∃ vw', CF W0 w' n0 n a b z vw' []
set_option maxRecDepth 100000 in
set_option maxHeartbeats 4000000 in
theorem eachF_any (n0 a b s : Nat) (x : Int) (w : World) (hs : s < 18446744073709551616) (hb : bitsN s ≤ 60) (h0 : w.heap[n0]? = some (.cells #[.int .i64 a] 3 (0, 0))) (h1 : w.heap[n0 + 1]? = some (.cells #[.int .i64 b] 3 (0, 0))) (h2 : w.heap[n0 + 2]? = some (.cells #[.int .i64 x] 3 (0, 0)))
    (hl : n0 + 2 < w.heap.size) (W0 : World) (hW : Below W0.heap.size W0 w) (hn : W0.heap.size ≤ n0) :
    Calls Try.prog 61 #[.int .u64 (s : Int), cbV n0] w (EachRes W0 n0 w.heap.size a b (cntE (iffB a b) 61 s [] x)) := by
  have hmf : ∀ (fn : Fn) (first cap : Array Value) (w : World), (Instr.makeFunc fn first cap).run Try.prog w = .ok (.func fn first cap) w := fun _ _ _ _ => rfl
  have HALL := Lib.hid (each_all W0 n0 w.heap.size a b 61 s [] (by omega) hs (by simp; omega))
  obtain ⟨z, HZ⟩ : ∃ z, Hid (cntE (iffB a b) 61 s [] x = z) := ⟨_, rfl⟩
  rw [HZ.out]
  have HEA : Hid (∀ wr vw, CF W0 wr n0 w.heap.size a b x vw [] → Calls Try.prog 127 #[.int .u64 (s : Int), .pointer (some ⟨w.heap.size, 0, none⟩), .pointer (some ⟨w.heap.size + 2, 0, none⟩), .pointer (some ⟨w.heap.size + 3, 0, none⟩)] wr (EPost W0 wr n0 w.heap.size a b z vw [])) := fun wr vw h => by rw [← HZ.out]; exact HALL.out wr x vw h
  clear HALL HZ
  obtain ⟨W4, hW4, q0, q1, q2, q3, hb4⟩ := four_alloc w (.cells #[cbV n0] 82) (.cells #[] 46) (.cells #[.slice (some ⟨w.heap.size + 1, 0, none⟩) 0 0] 28) (.cells #[reV w.heap.size] 138)
  have HCF : Hid (CF W0 W4 n0 w.heap.size a b x (.slice (some ⟨w.heap.size + 1, 0, none⟩) 0 0) []) := by
    have hw := hW.trans (hb4.mono hW.size)
    refine ⟨blk_below h0 hb4, blk_below h1 hb4, blk_below h2 hb4, q0, q2, q3, ⟨?_, hw, by have := hW.size; omega, by have := lt_of_block q3; omega⟩, fun g hg => ?_, hl, hn⟩
    · exact ⟨by simp, .inr ⟨_, 0, #[], rfl, Nat.le_refl _, q1, Nat.le_refl _, by simp [maxLen], by simp, by simp⟩⟩
    · simp only [Value.ownBlock, Option.some.injEq] at hg; exact .inl hg.symm
  have HWW := Lib.hid hW4
  clear h0 h1 h2 hl q0 q1 q2 q3 hb4 hW hW4 hn
  go_enter Try.func61, Try.ntmps61
  go_wp2_with fail
  have hww : W4 = (((w.alloc (.cells #[cbV n0] 82)).alloc (.cells #[] 46)).alloc (.cells #[.slice (some ⟨w.heap.size + 1, 0, none⟩) 0 0] 28)).alloc (.cells #[.func (.func 127) #[] #[.pointer (some ⟨w.heap.size, 0, none⟩), .pointer (some ⟨w.heap.size + 1 + 1, 0, none⟩), .pointer (some ⟨w.heap.size + 1 + 1 + 1, 0, none⟩)]] 138) := HWW.out
  rw [← hww]
  refine (HEA.out W4 _ HCF.out).mono ?_
  rintro e w5 ⟨rfl, vw5, h5, _⟩
  have H5 := Lib.hid h5
  clear h5 hww HWW HCF HEA
  go_wp2_with fail
  go_end0
  exact ⟨rfl, _, H5.out⟩

theorem bits_rect_tab : ((List.range 7).all fun a => (List.range 7).all fun b => decide (bitsN (setZ (rectZ a b)) ≤ 36)) = true := by decide +kernel
theorem bits_rect (a b : Nat) (ha : a ≤ 6) (hb : b ≤ 6) : bitsN (setZ (rectZ a b)) ≤ 36 := by
  have h := bits_rect_tab
  rw [List.all_eq_true] at h
  have h := h a (by simp; omega)
  rw [List.all_eq_true] at h
  have h := h b (by simp; omega)
  simpa using h
/-- What the program's CountFaultFree returns. -/
def cffI (a b : Int) : Int := if fewB a b then cntE (iffB a b) 61 (setZ (rectZ a.toNat b.toNat)) [] 0 else -1
set_option maxRecDepth 100000 in
set_option maxHeartbeats 4000000 in
theorem CountFaultFree_yes (a b : Nat) (ha : 1 ≤ a ∧ a ≤ 6) (hb : 1 ≤ b ∧ b ≤ 6) (w : World) (hf : fewB a b = true) :
    Calls Try.prog 14 #[.int .i64 (a : Int), .int .i64 (b : Int)] w fun e w' => e = .returned (.int .i64 (cntE (iffB a b) 61 (setZ (rectZ a b)) [] 0)) ∧ Below w.heap.size w w' := by
  have hmf : ∀ (fn : Fn) (first cap : Array Value) (w : World), (Instr.makeFunc fn first cap).run Try.prog w = .ok (.func fn first cap) w := fun _ _ _ _ => rfl
  have HOK := Lib.hid (rectZ_ok a b (by omega) (by omega))
  have HRT := Lib.hid (Rectangle_yes a b (by omega) (by omega))
  have HBT := Lib.hid (bits_rect a b ha.2 hb.2)
  obtain ⟨zs, HZS⟩ : ∃ zs, Hid (rectZ a b = zs) := ⟨_, rfl⟩
  rw [HZS.out] at HOK HRT HBT ⊢
  have HSL := Lib.hid (setZ_lt HOK.out)
  obtain ⟨s, HS⟩ : ∃ s, Hid (setZ zs = s) := ⟨_, rfl⟩
  rw [HS.out] at HBT HSL ⊢
  obtain ⟨z, HZ⟩ : ∃ z, Hid (cntE (iffB a b) 61 s [] 0 = z) := ⟨_, rfl⟩
  rw [HZ.out]
  clear HZS
  go_enter Try.func14, Try.ntmps14
  go_wp2_with fail
  obtain ⟨W, hW, k0, k1, hb0⟩ := two_alloc w (.cells #[.int .i64 a] 3) (.cells #[.int .i64 b] 3)
  rw [← hW]
  have m0 : W.cell? ⟨w.heap.size, 0, none⟩ = some (.int .i64 a) := cell_of_one k0
  have m1 : W.cell? ⟨w.heap.size + 1, 0, none⟩ = some (.int .i64 b) := cell_of_one k1
  have hsW : W.heap.size = w.heap.size + 2 := by rw [hW]; simp
  clear hW
  go_wp2_with fail
  refine (areFew_any _ _ _).mono ?_
  rintro e w1 ⟨rfl, rfl⟩
  rw [hf]
  obtain ⟨W1, hW1, k2, hb1⟩ := one_alloc W (.cells #[.int .i64 0] 3)
  have HW1 := Lib.hid hW1
  rw [hsW] at k2
  have HK0 := Lib.hid (blk_below k0 hb1); have HK1 := Lib.hid (blk_below k1 hb1); have HK2 := Lib.hid k2
  have HB1 := Lib.hid (hb0.trans (hb1.mono hb0.size))
  have m0' : W1.cell? ⟨w.heap.size, 0, none⟩ = some (.int .i64 a) := cell_of_one HK0.out
  have m1' : W1.cell? ⟨w.heap.size + 1, 0, none⟩ = some (.int .i64 b) := cell_of_one HK1.out
  rw [hW1] at m0' m1'
  clear hW1 k0 k1 k2 hb0 hb1 m0 m1
  go_wp2_with fail
  rw [← HW1.out]
  refine (HRT.out W1).mono ?_
  rintro e w2 ⟨u, rfl, hr2, hb2⟩
  have HB2 := Lib.hid (HB1.out.trans (hb2.mono HB1.out.size))
  have HJ0 := Lib.hid (blk_below HK0.out hb2); have HJ1 := Lib.hid (blk_below HK1.out hb2); have HJ2 := Lib.hid (blk_below HK2.out hb2)
  have HRS := Lib.hid (rset_any u zs w2.heap.size w2 hr2 (Nat.le_refl _) HOK.out)
  rw [HS.out] at HRS
  clear hr2 hb2 m0' m1' HK0 HK1 HK2 HW1 hsW
  go_wp2_with fail
  refine HRS.out.mono ?_
  rintro e w3 ⟨rfl, hb3⟩
  have HB3 := Lib.hid (HB2.out.trans (hb3.mono HB2.out.size))
  have HI0 := Lib.hid (blk_below HJ0.out hb3); have HI1 := Lib.hid (blk_below HJ1.out hb3); have HI2 := Lib.hid (blk_below HJ2.out hb3)
  have HEF := Lib.hid (eachF_any w.heap.size a b s 0 w3 HSL.out (by have := HBT.out; omega) HI0.out HI1.out HI2.out (lt_of_block HI2.out) w HB3.out (Nat.le_refl _))
  rw [HZ.out] at HEF
  clear hb3 HJ0 HJ1 HJ2 HI0 HI1 HI2
  go_wp2_with fail
  refine HEF.out.mono ?_
  rintro e w4 ⟨rfl, vw4, h4⟩
  have c4 : w4.cell? ⟨w.heap.size + 2, 0, none⟩ = some (.int .i64 z) := cell_of_one h4.ec
  have HB4 := Lib.hid h4.big
  clear h4
  go_wp2_with fail
  go_ret
  exact ⟨rfl, HB4.out⟩
theorem CountFaultFree_any (a b : Int) (w : World) :
    Calls Try.prog 14 #[.int .i64 a, .int .i64 b] w fun e w' => e = .returned (.int .i64 (cffI a b)) ∧ Below w.heap.size w w' := by
  cases hf : fewB a b
  · have e0 : cffI a b = -1 := by simp [cffI, hf]
    rw [e0]; clear e0
    go_enter Try.func14, Try.ntmps14
    go_wp2_with fail
    obtain ⟨W, hW, k0, k1, hb0⟩ := two_alloc w (.cells #[.int .i64 a] 3) (.cells #[.int .i64 b] 3)
    rw [← hW]
    have m0 : W.cell? ⟨w.heap.size, 0, none⟩ = some (.int .i64 a) := cell_of_one k0
    have m1 : W.cell? ⟨w.heap.size + 1, 0, none⟩ = some (.int .i64 b) := cell_of_one k1
    clear hW k0 k1
    go_wp2_with fail
    refine (areFew_any _ _ _).mono ?_
    rintro e w1 ⟨rfl, rfl⟩
    rw [hf]
    go_wp2_with fail
    go_ret
    exact ⟨rfl, hb0⟩
  · have h := hf
    unfold fewB at h
    simp only [Bool.and_eq_true, inB_iff, decide_eq_true_eq] at h
    obtain ⟨n, rfl⟩ := Int.eq_ofNat_of_zero_le (show 0 ≤ a by omega)
    obtain ⟨m, rfl⟩ := Int.eq_ofNat_of_zero_le (show 0 ≤ b by omega)
    have e0 : cffI n m = cntE (iffB n m) 61 (setZ (rectZ n m)) [] 0 := by simp [cffI, hf]
    rw [e0]
    exact CountFaultFree_yes n m (by omega) (by omega) w hf
end Go.Proofs.Ytehnbalbpfmijaa

namespace Go.Proofs.Ytehnbalbpfmijaa
open Go.RowKit
set_option linter.unusedVariables false

/-- The first index that is not covered. -/
def fstF (n c : Nat) : Nat → Nat → Nat
  | 0, i => i
  | d + 1, i => if decide (i < n) && c.testBit i then fstF n c d (i + 1) else i
/-- What l18Find returns; d bounds the dominoes. -/
def findZ (w h : Nat) : Nat → Nat → Nat → Int
  | 0, _, _ => 0
  | d + 1, c, l =>
    if fstF (w * h) c (w * h) 0 = w * h then (if l = 2 ^ (w + h - 2) - 1 then 1 else 0)
    else
      let k := fstF (w * h) c (w * h) 0
      let o1 := if decide (k % w + 1 < w) && !c.testBit (k + 1) then findZ w h d (c ||| 3 * 2 ^ k) (l ||| 2 ^ (k % w)) else 0
      if k / w + 1 < h then wrap64 (o1 + findZ w h d (c ||| 2 ^ k ||| 2 ^ (k + w)) (l ||| 2 ^ (w - 1 + k / w))) else o1
end Go.Proofs.Ytehnbalbpfmijaa

namespace Go.Proofs.Ytehnbalbpfmijaa
open Go.RowKit
set_option linter.unusedVariables false

theorem cnt_node {p : List Lk → Bool} {d s k : Nat} {hd : List Lk} {x x1 z : Int} (h0 : s ≠ 0) (hk : fstN s = k)
    (hA : (if fitB s (dOf k false) then cntE p d (minN s (dM (dOf k false))) (hd ++ [dOf k false]) x else x) = x1)
    (hB : (if fitB s (dOf k true) then cntE p d (minN s (dM (dOf k true))) (hd ++ [dOf k true]) x1 else x1) = z) : cntE p (d + 1) s hd x = z := by
  rw [cntE, if_neg h0]
  subst hk
  simp only [hA, hB]
theorem cnt_yes {p : List Lk → Bool} {d s s' : Nat} {l : Lk} {hd hd' : List Lk} {x z : Int} (hf : fitB s l = true) (hs : minN s (dM l) = s') (hh : hd ++ [l] = hd') (h : cntE p d s' hd' x = z) :
    (if fitB s l then cntE p d (minN s (dM l)) (hd ++ [l]) x else x) = z := by rw [if_pos hf, hs, hh, h]
theorem cnt_no {p : List Lk → Bool} {d s : Nat} {l : Lk} {hd : List Lk} {x : Int} (hf : fitB s l = false) :
    (if fitB s l then cntE p d (minN s (dM l)) (hd ++ [l]) x else x) = x := by rw [hf]; rfl
end Go.Proofs.Ytehnbalbpfmijaa
