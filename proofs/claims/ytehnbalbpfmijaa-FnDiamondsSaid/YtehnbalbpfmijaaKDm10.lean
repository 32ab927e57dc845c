/- What the claim's walk rests on: parts ProfS, CWith, ProfB, ProfL, Til. -/
import Derived.Test.YtehnbalbpfmijaaKDm8
import Derived.Test.YtehnbalbpfmijaaKDm6
import Derived.Test.YtehnbalbpfmijaaKDm9
import Derived.Test.YtehnbalbpfmijaaKDm7
import Derived.Test.YtehnbalbpfmijaaKDm4
import Derived.StillTailTactics
namespace Go.Proofs.Ytehnbalbpfmijaa
open Go.RowKit
set_option linter.unusedVariables false

structure QB (w wr : World) (v : Value) (rows : List Int) (p1 gn : Nat) (zs : List Int) : Prop where
  er : wr.heap[p1]? = some (.cells #[v] 39 (0, 0))
  rn : Row256 wr gn zs
  big : Below w.heap.size w wr
  rd : ∃ B, B ≤ w.heap.size ∧ RdI wr B v rows
  l1 : w.heap.size ≤ p1
  ln : p1 < gn
structure QF (w wr : World) (v : Value) (rows : List Int) (p1 gn p7 gx x y : Nat) (zs nx : List Int) : Prop where
  er : wr.heap[p1]? = some (.cells #[v] 39 (0, 0))
  rn : Row256 wr gn zs
  ec : wr.heap[p7]? = some (.cells #[.int .i64 (x : Int), .int .i64 (y : Int)] 44 (0, 0))
  rx : Row256 wr gx nx
  big : Below w.heap.size w wr
  rd : ∃ B, B ≤ w.heap.size ∧ RdI wr B v rows
  l1 : w.heap.size ≤ p1
  n1 : gx ≠ p1
  nn : gx ≠ gn
  nc : gx ≠ p7
  lx : p1 < gx
section
variable {w wr w1 : World} {v : Value} {rows : List Int} {p1 gn p7 gx x y : Nat} {zs nx nx' : List Int}
theorem QB.below (h : QB w wr v rows p1 gn zs) (hb : Below wr.heap.size wr w1) : QB w w1 v rows p1 gn zs := by
  obtain ⟨B, hB, hr⟩ := h.rd
  exact ⟨blk_below h.er hb, h.rn.keep (hb.block _ (lt_of_block h.rn.1)), h.big.trans (hb.mono h.big.size), ⟨B, hB, hr.below (hb.mono (Nat.le_trans hB h.big.size))⟩, h.l1, h.ln⟩
theorem QB.set (h : QB w wr v rows p1 gn zs) (k : Nat) (z : Int) : QB w (wr.setCell ⟨gn, k, none⟩ (.int .i64 z)) v rows p1 gn (zs.set k z) := by
  obtain ⟨B, hB, hr⟩ := h.rd
  have hl := h.ln
  have hl1 := h.l1
  have hb : Below w.heap.size wr (wr.setCell ⟨gn, k, none⟩ (.int .i64 z)) := (Below.refl _ _).setCell (by show w.heap.size ≤ gn; omega) _
  exact ⟨(Below.heap_setCell _ _ _ _ (by show p1 ≠ gn; omega)).trans h.er, h.rn.set k z, h.big.trans hb, ⟨B, hB, hr.below (hb.mono hB)⟩, h.l1, h.ln⟩
theorem QF.below (h : QF w wr v rows p1 gn p7 gx x y zs nx) (hb : Below wr.heap.size wr w1) : QF w w1 v rows p1 gn p7 gx x y zs nx := by
  obtain ⟨B, hB, hr⟩ := h.rd
  exact ⟨blk_below h.er hb, h.rn.keep (hb.block _ (lt_of_block h.rn.1)), blk_below h.ec hb, h.rx.keep (hb.block _ (lt_of_block h.rx.1)), h.big.trans (hb.mono h.big.size), ⟨B, hB, hr.below (hb.mono (Nat.le_trans hB h.big.size))⟩, h.l1, h.n1, h.nn, h.nc, h.lx⟩
theorem QF.set (h : QF w wr v rows p1 gn p7 gx x y zs nx) (k : Nat) (z : Int) : QF w (wr.setCell ⟨gx, k, none⟩ (.int .i64 z)) v rows p1 gn p7 gx x y zs (nx.set k z) := by
  obtain ⟨B, hB, hr⟩ := h.rd
  have hk : ∀ j, gx ≠ j → (wr.setCell ⟨gx, k, none⟩ (.int .i64 z)).heap[j]? = wr.heap[j]? := fun j hj => Below.heap_setCell _ _ _ _ (Ne.symm hj)
  have hl := h.lx
  have hl1 := h.l1
  have hb : Below w.heap.size wr (wr.setCell ⟨gx, k, none⟩ (.int .i64 z)) := (Below.refl _ _).setCell (by show w.heap.size ≤ gx; omega) _
  exact ⟨(hk _ h.n1).trans h.er, h.rn.keep (hk _ h.nn), (hk _ h.nc).trans h.ec, h.rx.set k z, h.big.trans hb, ⟨B, hB, hr.below (hb.mono hB)⟩, h.l1, h.n1, h.nn, h.nc, h.lx⟩
theorem QF.cells (h : QF w wr v rows p1 gn p7 gx x y zs nx) : wr.cell? ⟨p1, 0, none⟩ = some v ∧ wr.cell? ⟨p7, 0, none⟩ = some (.int .i64 (x : Int)) ∧ wr.cell? ⟨p7, 1, none⟩ = some (.int .i64 (y : Int)) :=
  ⟨by rw [blk_cell h.er]; rfl, by rw [blk_cell h.ec]; rfl, by rw [blk_cell h.ec]; rfl⟩
end
theorem shl_q (x : Nat) (hx : x ≤ 7) : wrap64 ((2 : Int) ^ x) = ((2 ^ x : Nat) : Int) := by
  have h : (2 ^ x : Nat) ≤ 2 ^ 7 := Nat.pow_le_pow_right (by omega) hx
  have e : ((2 : Int) ^ x) = ((2 ^ x : Nat) : Int) := by simp
  rw [e]
  generalize (2 ^ x : Nat) = p at *
  simp at h
  unfold wrap64
  omega

set_option maxRecDepth 100000 in
set_option maxHeartbeats 8000000 in
theorem l07Count_yes (v : Value) (rows : List Int) (B : Nat) (w : World) (hr : RdI w B v rows) (hB : B ≤ w.heap.size) (hok : regOkB rows = true) :
    Calls Try.prog 89 #[.agg #[v]] w fun e w' => e = .returned (.int .i64 (profZ (setZ rows))) ∧ Below w.heap.size w w' := by
  obtain ⟨T, HT⟩ : ∃ T, Hid (setZ rows = T) := ⟨_, rfl⟩
  rw [HT.out]
  obtain ⟨pf, HPF⟩ : ∃ pf : Nat → List Int, Hid (pf = profTo T) := ⟨_, rfl⟩
  obtain ⟨z0, HZ0⟩ : ∃ z : List Int, Hid (z = zeros) := ⟨_, rfl⟩
  have HPS : Hid (∀ i, pf (i + 1) = stepTo (hasC T (i % 8) (i / 8)) (hasC T (i % 8) (i / 8 + 1)) (hasC T (i % 8 + 1) (i / 8)) (i % 8) (pf i) 256) := by rw [HPF.out]; exact fun i => rfl
  have HPW : Hid (∀ i, WOk (pf i)) := by rw [HPF.out]; exact WOk.prof T
  have HP00 : Hid (pf 0 = z0.set 0 1) := by rw [HPF.out, HZ0.out]; rfl
  have HFZ : Hid (∀ r, pf 64 = r → profZ T = el r 0) := by rw [HPF.out]; exact fun r h => by rw [← h]; rfl
  have HST0 : Hid (∀ (h b r : Bool) (x : Nat) (zs : List Int), stepTo h b r x zs 0 = z0) := by rw [HZ0.out]; exact fun _ _ _ _ _ => rfl
  have HZL : Hid (z0.length = 256) := by rw [HZ0.out]; exact zeros_len
  obtain ⟨res, HRES⟩ : ∃ r, Hid (profZ T = r) := ⟨_, rfl⟩
  rw [HRES.out] at HFZ ⊢
  have hmk : ∀ w : World, (Instr.makeSlice 31 (.int .i64 256) (.int .i64 256)).run Try.prog w = .ok (.slice (some ⟨w.heap.size, 0, none⟩) 256 256) (w.alloc (.cells (madeCells #[.int .i64 0] 256) 3)) := fun _ => by kernel_rfl
  rw [made256, ← HZ0.out] at hmk
  clear HPF HZ0 HRES
  have HR := Lib.hid hr
  obtain ⟨A, c, rfl, _, g2, _⟩ := hr
  unfold maxLen at g2
  obtain ⟨v, HV⟩ : ∃ v, Hid (v = Value.slice A rows.length c) := ⟨_, rfl⟩
  rw [← HV.out] at HR ⊢
  obtain ⟨W, hW, k0, k1, hb0⟩ := two_alloc w (.cells #[v] 39) (.cells (rwC z0) 3)
  have HQ0 : Hid (QB w W v rows w.heap.size (w.heap.size + 1) z0) := ⟨k0, ⟨k1, HZL.out⟩, hb0, ⟨B, hB, HR.out.below (hb0.mono hB)⟩, Nat.le_refl _, by omega⟩
  have cW := HQ0.out.rn.cell (k := 0) (by omega)
  have fW := HQ0.out.rn.free 0
  have HSW : Hid ((rwC z0).setIfInBounds 0 (.int .i64 1) = rwC (pf 0)) := by unfold Hid; rw [HP00.out]; exact rwC_set _ _ _
  obtain ⟨W1, hW1, j0, j1, jb⟩ := two_alloc w (.cells #[v] 39) (.cells (rwC (pf 0)) 3)
  have HQ1 : Hid (QB w W1 v rows w.heap.size (w.heap.size + 1) (pf 0)) := ⟨j0, ⟨j1, by rw [HP00.out, List.length_set]; exact HZL.out⟩, jb, ⟨B, hB, HR.out.below (jb.mono hB)⟩, Nat.le_refl _, by omega⟩
  have HWW := Lib.hid hW1
  rw [hW] at cW fW
  clear hW k0 k1 hb0 HR HV hW1 j0 j1 jb
  go_enter Try.func89, Try.ntmps89
  go_wp2_with fail
  rw [HSW.out, ← HWW.out]
  clear cW fW HQ0
  go_loopw [4, 5] (fun u s wr => ∃ (i gn : Nat), i ≤ 64 ∧ s = .int .i64 i ∧ u = .slice (some ⟨gn, 0, none⟩) 256 256 ∧ Hid (QB w wr v rows w.heap.size gn (pf i))) (fun _ s _ => 64 - (intOf s).toNat)
  case atStart => exact ⟨0, _, Nat.zero_le _, rfl, rfl, HQ1⟩
  case round =>
    obtain ⟨i, gn, hi, rfl, rfl, HQ⟩ := hrel
    by_cases hli : i < 64
    · have hti : decide ((i : Int) < 64) = true := by simp only [decide_eq_true_eq]; omega
      have HS := Lib.hid (HPS.out i)
      have HWO := Lib.hid (HPW.out i)
      have hx7 : i % 8 ≤ 7 := by omega
      have hy7 : i / 8 ≤ 7 := by omega
      have HXI : Hid ((i : Int) % 8 = ((i % 8 : Nat) : Int)) := by unfold Hid; omega
      go_wp2_with fail
      refine (CellAt_yes i (by omega) _).mono ?_
      rintro e w1 ⟨rfl, hb1⟩
      rw [HXI.out]
      have HQ1 := Lib.hid (HQ.out.below hb1)
      obtain ⟨zs, HZS⟩ : ∃ zs, Hid (pf i = zs) := ⟨_, rfl⟩
      obtain ⟨zs2, HZS2⟩ : ∃ zs, Hid (pf (i + 1) = zs) := ⟨_, rfl⟩
      rw [HZS.out] at HQ1 HS HWO
      rw [HZS2.out] at HS
      clear HXI
      generalize i % 8 = x at *
      generalize i / 8 = y at *
      clear hb1 HQ
      go_wp2_with fail
      obtain ⟨W2, hW2, q0, q1, hb2⟩ := two_alloc w1 (.cells #[.int .i64 (x : Int), .int .i64 (y : Int)] 44) (.cells (rwC z0) 3)
      rw [← hW2]
      have HF0 : Hid (QF w W2 v rows w.heap.size gn w1.heap.size (w1.heap.size + 1) x y zs z0) := by
        have h := HQ1.out.below hb2
        have l1 := lt_of_block HQ1.out.er
        have l2 := lt_of_block HQ1.out.rn.1
        have l3 := HQ1.out.big.size
        exact ⟨h.er, h.rn, q0, ⟨q1, HZL.out⟩, h.big, h.rd, Nat.le_refl _, by omega, by omega, by omega, by omega⟩
      clear hW2 q0 q1 hb2 HQ1
      generalize w1.heap.size = n1 at *
      obtain ⟨h, HH⟩ : ∃ h, Hid (hasC T x y = h) := ⟨_, rfl⟩
      obtain ⟨b, HB⟩ : ∃ h, Hid (hasC T x (y + 1) = h) := ⟨_, rfl⟩
      obtain ⟨r, HR⟩ : ∃ h, Hid (hasC T (x + 1) y = h) := ⟨_, rfl⟩
      rw [HH.out, HB.out, HR.out] at HS
      obtain ⟨st, HST⟩ : ∃ st : Nat → List Int, Hid (st = stepTo h b r x zs) := ⟨_, rfl⟩
      have HSIN : Hid (∀ k, st (k + 1) = inZ h b r x (el zs k) k (st k)) := by rw [HST.out]; exact fun k => rfl
      have HF3 : Hid (QF w W2 v rows w.heap.size gn n1 (n1 + 1) x y zs (st 0)) := by rw [HST.out, HST0.out]; exact HF0.out
      rw [← HST.out] at HS
      clear HST HF0
      have HH1 : Hid (hasB (setZ rows) x y = h) := by unfold Hid; rw [HT.out, ← HH.out]; simp [hasC, hx7, hy7]
      go_loopw [10] (fun s wr => ∃ k : Nat, k ≤ 256 ∧ s = .int .i64 k ∧ Hid (QF w wr v rows w.heap.size gn n1 (n1 + 1) x y zs (st k))) (fun s _ => 256 - (intOf s).toNat)
      case atStart => exact ⟨0, Nat.zero_le _, rfl, HF3⟩
      case round =>
        obtain ⟨k, hk, rfl, HF4⟩ := hrel
        obtain ⟨f1, f2, f3⟩ := HF4.out.cells
        by_cases hlt : k < 256
        · have ht : decide ((k : Int) < 256) = true := by simp only [decide_eq_true_eq]; omega
          have hk0 : (0 : Int) ≤ (k : Int) := by omega
          have hk1 : (k : Int) < 256 := by omega
          have cr := HF4.out.rn.cell hlt
          have HN := Lib.hid (HWO.out k)
          have HIN := Lib.hid (HSIN.out k)
          obtain ⟨b1, b2, b3, b4, b5⟩ := bits_at k x hlt hx7
          have hsh := bit_shr k x (by omega) hx7
          have HB3 := Lib.hid b3; have HB5 := Lib.hid b5
          clear b1 b2 b3 b4 b5
          generalize st k = nx at *
          generalize el zs k = n at *
          by_cases hn0 : n = 0
          · have t0 : (n == 0) = true := by simp [hn0]
            have HF5 : Hid (QF w wr v rows w.heap.size gn n1 (n1 + 1) x y zs (st (k + 1))) := by rw [HIN.out, inZ, if_pos hn0]; exact HF4.out
            clear hn0 hsh
            go_wp2_with fail
            go_roundw
            case rel => exact ⟨k + 1, by omega, by go_num, HF5⟩
            case measure => simp [intOf]; omega
          · have t0 : (n == 0) = false := by rw [beq_eq_false_iff_ne]; exact hn0
            cases hb : k.testBit x
            · rw [hb] at hsh
              cases h
              · have HX : Hid (st (k + 1) = putZ nx k n) := by unfold Hid; rw [HIN.out, inZ, if_neg hn0]; simp [hb]
                clear hn0
                go_wp2_with fail
                obtain ⟨B5, hB5, hr5⟩ := HF4.out.rd
                refine (l03Has_yes v rows B5 _ hr5 (Nat.le_trans hB5 HF4.out.big.size) hok x y (by omega) (by omega)).mono ?_
                rintro e w5 ⟨rfl, hb5⟩
                rw [HH1.out]
                clear hr5
                have HF5 := Lib.hid (HF4.out.below hb5)
                clear f1 f2 f3
                obtain ⟨f1, f2, f3⟩ := HF5.out.cells
                have cx := HF5.out.rx.cell (k := k) hlt
                have fx := HF5.out.rx.free (k)
                have HE : Hid (QF w (w5.setCell ⟨n1 + 1, k, none⟩ (.int .i64 (wrap64 (el nx (k) + n)))) v rows w.heap.size gn n1 (n1 + 1) x y zs (st (k + 1))) := by rw [HX.out]; exact HF5.out.set (k) _
                generalize el nx (k) = q at *
                go_wp2_with fail
                go_roundw
                case rel => exact ⟨k + 1, by omega, by go_num, HE⟩
                case measure => simp [intOf]; omega
              · have HX0 : Hid (st (k + 1) = if r && !k.testBit (x + 1) then putZ (if b then putZ nx (k ||| 2 ^ x) n else nx) (k ||| 2 ^ (x + 1)) n else if b then putZ nx (k ||| 2 ^ x) n else nx) := by unfold Hid; rw [HIN.out, inZ, if_neg hn0]; simp only [hb, if_true]; rfl
                clear hn0
                go_wp2_with fail
                obtain ⟨B5, hB5, hr5⟩ := HF4.out.rd
                refine (l03Has_yes v rows B5 _ hr5 (Nat.le_trans hB5 HF4.out.big.size) hok x y (by omega) (by omega)).mono ?_
                rintro e w5 ⟨rfl, hb5⟩
                rw [HH1.out]
                clear hr5
                have HF5 := Lib.hid (HF4.out.below hb5)
                clear f1 f2 f3
                obtain ⟨f1, f2, f3⟩ := HF5.out.cells
                go_wp2_with fail
                obtain ⟨w6, hw6, hk6, hb6⟩ := one_alloc w5 (.cells #[.int .i64 (x : Int), .int .i64 ((y : Int) + 1)] 44)
                rw [← hw6]
                have HL6 := Lib.hid (lt_of_block hk6)
                have HK6 := Lib.hid hk6
                clear hw6 hk6
                have HF6 := Lib.hid (HF5.out.below hb6)
                clear f1 f2 f3
                obtain ⟨f1, f2, f3⟩ := HF6.out.cells
                have g6a : w6.cell? ⟨w5.heap.size, 0, none⟩ = some (.int .i64 (x : Int)) := by rw [blk_cell HK6.out]; rfl
                have g6b : w6.cell? ⟨w5.heap.size, 1, none⟩ = some (.int .i64 ((y : Int) + 1)) := by rw [blk_cell HK6.out]; rfl
                clear hb6
                have HY1 : Hid ((y : Int) + 1 = ((y + 1 : Nat) : Int)) := by unfold Hid; omega
                go_wp2_with fail
                by_cases hy8 : y + 1 ≤ 7
                · have hs : spotB 7 x ((y : Int) + 1) = true := (spotB_iff _ _ _).2 ⟨by omega, by omega⟩
                  refine (specCellOk_any (x : Int) ((y : Int) + 1) _).mono ?_
                  rintro e w7 ⟨rfl, hb7⟩
                  rw [hs]
                  clear g6a g6b
                  have HK7 := Lib.hid (blk_below HK6.out hb7)
                  have g7a : w7.cell? ⟨w5.heap.size, 0, none⟩ = some (.int .i64 (x : Int)) := by rw [blk_cell HK7.out]; rfl
                  have g7b : w7.cell? ⟨w5.heap.size, 1, none⟩ = some (.int .i64 ((y : Int) + 1)) := by rw [blk_cell HK7.out]; rfl
                  have HF7 := Lib.hid (HF6.out.below hb7)
                  clear f1 f2 f3
                  obtain ⟨f1, f2, f3⟩ := HF7.out.cells
                  have HB1 : Hid (hasB (setZ rows) x (y + 1) = b) := by unfold Hid; rw [HT.out, ← HB.out]; simp [hasC, hx7, hy8]
                  go_wp2_with fail
                  rw [HY1.out]
                  obtain ⟨B8, hB8, hr8⟩ := HF7.out.rd
                  refine (l03Has_yes v rows B8 _ hr8 (Nat.le_trans hB8 HF7.out.big.size) hok x (y + 1) (by omega) (by omega)).mono ?_
                  rintro e w8 ⟨rfl, hb8⟩
                  rw [HB1.out]
                  clear hr8
                  have HF8 := Lib.hid (HF7.out.below hb8)
                  clear f1 f2 f3
                  obtain ⟨f1, f2, f3⟩ := HF8.out.cells
                  clear g7a g7b
                  cases b
                  · skip
                    have HX0 : Hid (st (k + 1) = if r && !k.testBit (x + 1) then putZ nx (k ||| 2 ^ (x + 1)) n else nx) := HX0.out
                    go_wp2_with fail
                    obtain ⟨w9, hw9, hk9, hb9⟩ := one_alloc w8 (.cells #[.int .i64 ((x : Int) + 1), .int .i64 (y : Int)] 44)
                    rw [← hw9]
                    have HL9 := Lib.hid (lt_of_block hk9)
                    have HK9 := Lib.hid hk9
                    clear hw9 hk9
                    have HF9 := Lib.hid (HF8.out.below hb9)
                    clear f1 f2 f3
                    obtain ⟨f1, f2, f3⟩ := HF9.out.cells
                    have g9a : w9.cell? ⟨w8.heap.size, 0, none⟩ = some (.int .i64 ((x : Int) + 1)) := by rw [blk_cell HK9.out]; rfl
                    have g9b : w9.cell? ⟨w8.heap.size, 1, none⟩ = some (.int .i64 (y : Int)) := by rw [blk_cell HK9.out]; rfl
                    clear hb9
                    have HX1 : Hid ((x : Int) + 1 = ((x + 1 : Nat) : Int)) := by unfold Hid; omega
                    go_wp2_with fail
                    by_cases hx8 : x + 1 ≤ 7
                    · have hs2 : spotB 7 ((x : Int) + 1) y = true := (spotB_iff _ _ _).2 ⟨by omega, by omega⟩
                      refine (specCellOk_any ((x : Int) + 1) (y : Int) _).mono ?_
                      rintro e w10 ⟨rfl, hb10⟩
                      rw [hs2]
                      clear g9a g9b
                      have HK10 := Lib.hid (blk_below HK9.out hb10)
                      have g10a : w10.cell? ⟨w8.heap.size, 0, none⟩ = some (.int .i64 ((x : Int) + 1)) := by rw [blk_cell HK10.out]; rfl
                      have g10b : w10.cell? ⟨w8.heap.size, 1, none⟩ = some (.int .i64 (y : Int)) := by rw [blk_cell HK10.out]; rfl
                      have HF10 := Lib.hid (HF9.out.below hb10)
                      clear f1 f2 f3
                      obtain ⟨f1, f2, f3⟩ := HF10.out.cells
                      have HR1 : Hid (hasB (setZ rows) (x + 1) y = r) := by unfold Hid; rw [HT.out, ← HR.out]; simp [hasC, hx8, hy7]
                      go_wp2_with fail
                      rw [HX1.out]
                      obtain ⟨B11, hB11, hr11⟩ := HF10.out.rd
                      refine (l03Has_yes v rows B11 _ hr11 (Nat.le_trans hB11 HF10.out.big.size) hok (x + 1) y (by omega) (by omega)).mono ?_
                      rintro e w11 ⟨rfl, hb11⟩
                      rw [HR1.out]
                      clear hr11
                      have HF11 := Lib.hid (HF10.out.below hb11)
                      clear f1 f2 f3
                      obtain ⟨f1, f2, f3⟩ := HF11.out.cells
                      clear g10a g10b
                      cases r
                      · have HE : Hid (QF w w11 v rows w.heap.size gn n1 (n1 + 1) x y zs (st (k + 1))) := by rw [HX0.out]; exact HF11.out
                        go_wp2_with fail
                        go_roundw
                        case rel => exact ⟨k + 1, by omega, by go_num, HE⟩
                        case measure => simp [intOf]; omega
                      · obtain ⟨_, _, z3, z4, z5⟩ := bits_at k (x + 1) hlt hx8
                        cases hb2 : k.testBit (x + 1)
                        · rw [hb2] at z4 HX0
                          have z4' : (bits .and .i64 ((k : Int) / 2 ^ (x + 1)) 1 == 0) = true := by rw [show (2 : Int) ^ (x + 1) = ((2 ^ (x + 1) : Nat) : Int) by simp, z4]; rfl
                          have HZ3 := Lib.hid z3
                          have HZ5 := Lib.hid z5
                          clear z3 z4 z5
                          obtain ⟨j, HJ⟩ : ∃ j : Nat, Hid (k ||| 2 ^ (x + 1) = j) := ⟨_, rfl⟩
                          have hj2 : j < 256 := by rw [← HJ.out]; exact HZ5.out
                          have hji : bits .or .i64 (k : Int) (wrap64 (2 ^ (x + 1))) = (j : Int) := by rw [← HJ.out]; exact (by rw [shl_q _ hx8]; exact HZ3.out)
                          have hji2 : bits .or .i64 (k : Int) (IntKind.i64.wrap (2 ^ (x + 1))) = (j : Int) := by rw [IntWalk.i64_left]; exact hji
                          have hxw : IntKind.i64.wrap ((x : Int) + 1) = (x : Int) + 1 := IntWalk.i64_in _ (by omega)
                          have hj0 : (0 : Int) ≤ (j : Int) := by omega
                          have hj1 : (j : Int) < 256 := by omega
                          rw [HJ.out] at HX0
                          obtain ⟨q, HQQ⟩ : ∃ q, Hid (el nx j = q) := ⟨_, rfl⟩
                          obtain ⟨s9, HS9⟩ : ∃ s, Hid (wrap64 (q + n) = s) := ⟨_, rfl⟩
                          have hqw : wrap64 (q + n) = s9 := HS9.out
                          have hqw2 : IntKind.i64.wrap (q + n) = s9 := by rw [IntWalk.i64_left]; exact HS9.out
                          have cx := HF11.out.rx.cell (k := j) hj2
                          rw [HQQ.out] at cx
                          go_wp2_with fail
                          go_still_tail 17, (by kernel_rfl)
                          change wpList _ _ _ _ _ w11.drew
                          have HFD := Lib.hid (HF11.out.below (Below.refl w11.heap.size w11).drew)
                          have fx := HFD.out.rx.free j
                          have cx' := HFD.out.rx.cell (k := j) hj2
                          rw [HQQ.out] at cx'
                          obtain ⟨w12, HW12⟩ : ∃ W, Hid (W = w11.drew.setCell ⟨n1 + 1, j, none⟩ (.int .i64 s9)) := ⟨_, rfl⟩
                          have HF12 : Hid (QF w w12 v rows w.heap.size gn n1 (n1 + 1) x y zs (putZ nx j n)) := by
                            have h9 := HFD.out.set j (wrap64 (el nx j + n))
                            rw [HW12.out, ← HS9.out, ← HQQ.out]
                            exact h9
                          clear f1 f2 f3 cx
                          generalize w11.drew = wD at *
                          clear hqw hqw2 hji hji2 hxw
                          have HE : Hid (QF w w12 v rows w.heap.size gn n1 (n1 + 1) x y zs (st (k + 1))) := by rw [HX0.out]; exact HF12.out
                          rw [HW12.out] at HE
                          go_wp2_with fail
                          go_roundw
                          case rel => exact ⟨k + 1, by omega, by go_num, HE⟩
                          case measure => simp [intOf]; omega
                        · rw [hb2] at z4 HX0
                          have z4' : (bits .and .i64 ((k : Int) / 2 ^ (x + 1)) 1 == 0) = false := by rw [show (2 : Int) ^ (x + 1) = ((2 ^ (x + 1) : Nat) : Int) by simp, z4]; rfl
                          clear z3 z4 z5
                          have HE : Hid (QF w w11 v rows w.heap.size gn n1 (n1 + 1) x y zs (st (k + 1))) := by rw [HX0.out]; exact HF11.out
                          go_wp2_with fail
                          go_roundw
                          case rel => exact ⟨k + 1, by omega, by go_num, HE⟩
                          case measure => simp [intOf]; omega
                    · have hs2 : spotB 7 ((x : Int) + 1) y = false := by
                        cases hs : spotB 7 ((x : Int) + 1) y
                        · rfl
                        · have := (spotB_iff _ _ _).1 hs; omega
                      have hr0 : r = false := by rw [← HR.out]; simp [hasC, hx8]
                      subst hr0
                      refine (specCellOk_any ((x : Int) + 1) (y : Int) _).mono ?_
                      rintro e w10 ⟨rfl, hb10⟩
                      rw [hs2]
                      clear g9a g9b
                      have HK10 := Lib.hid (blk_below HK9.out hb10)
                      have g10a : w10.cell? ⟨w8.heap.size, 0, none⟩ = some (.int .i64 ((x : Int) + 1)) := by rw [blk_cell HK10.out]; rfl
                      have g10b : w10.cell? ⟨w8.heap.size, 1, none⟩ = some (.int .i64 (y : Int)) := by rw [blk_cell HK10.out]; rfl
                      have HF10 := Lib.hid (HF9.out.below hb10)
                      clear f1 f2 f3
                      obtain ⟨f1, f2, f3⟩ := HF10.out.cells
                      have HE : Hid (QF w w10 v rows w.heap.size gn n1 (n1 + 1) x y zs (st (k + 1))) := by rw [HX0.out]; exact HF10.out
                      go_wp2_with fail
                      go_roundw
                      case rel => exact ⟨k + 1, by omega, by go_num, HE⟩
                      case measure => simp [intOf]; omega
                  · skip
                    have HX9 : Hid (st (k + 1) = if r && !k.testBit (x + 1) then putZ (putZ nx (k ||| 2 ^ x) n) (k ||| 2 ^ (x + 1)) n else putZ nx (k ||| 2 ^ x) n) := HX0.out
                    clear HX0
                    have HX0 := HX9
                    clear HX9
                    obtain ⟨jb, HJb⟩ : ∃ jb : Nat, Hid (k ||| 2 ^ x = jb) := ⟨_, rfl⟩
                    have hj2b : jb < 256 := by rw [← HJb.out]; exact HB5.out
                    have hji : bits .or .i64 (k : Int) (wrap64 (2 ^ x)) = (jb : Int) := by rw [← HJb.out]; exact (by rw [shl_q _ hx7]; exact HB3.out)
                    have hji2 : bits .or .i64 (k : Int) (IntKind.i64.wrap (2 ^ x)) = (jb : Int) := by rw [IntWalk.i64_left]; exact hji
                    have hxw : IntKind.i64.wrap ((x : Int) + 1) = (x : Int) + 1 := IntWalk.i64_in _ (by omega)
                    have hj0b : (0 : Int) ≤ (jb : Int) := by omega
                    have hj1b : (jb : Int) < 256 := by omega
                    rw [HJb.out] at HX0
                    obtain ⟨qb, HQQb⟩ : ∃ qb, Hid (el nx jb = qb) := ⟨_, rfl⟩
                    obtain ⟨sb9, HS9b⟩ : ∃ s, Hid (wrap64 (qb + n) = s) := ⟨_, rfl⟩
                    have hqw : wrap64 (qb + n) = sb9 := HS9b.out
                    have hqw2 : IntKind.i64.wrap (qb + n) = sb9 := by rw [IntWalk.i64_left]; exact HS9b.out
                    have cx := HF8.out.rx.cell (k := jb) hj2b
                    rw [HQQb.out] at cx
                    go_wp2_with fail
                    go_still_tail 15, (by kernel_rfl)
                    change wpList _ _ _ _ _ w8.drew
                    have HFDb := Lib.hid (HF8.out.below (Below.refl w8.heap.size w8).drew)
                    have fx := HFDb.out.rx.free jb
                    have cx' := HFDb.out.rx.cell (k := jb) hj2b
                    rw [HQQb.out] at cx'
                    obtain ⟨w9, HW9⟩ : ∃ W, Hid (W = w8.drew.setCell ⟨n1 + 1, jb, none⟩ (.int .i64 sb9)) := ⟨_, rfl⟩
                    have HF9 : Hid (QF w w9 v rows w.heap.size gn n1 (n1 + 1) x y zs (putZ nx jb n)) := by
                      have h9 := HFDb.out.set jb (wrap64 (el nx jb + n))
                      rw [HW9.out, ← HS9b.out, ← HQQb.out]
                      exact h9
                    clear f1 f2 f3 cx
                    generalize w8.drew = wDb at *
                    clear hqw hqw2 hji hji2 hxw
                    go_upto_region 27 with (fail)
                    rw [← HW9.out]
                    obtain ⟨f1, f2, f3⟩ := HF9.out.cells
                    clear fx cx'
                    go_wp2_with fail
                    obtain ⟨w10, hw10, hk10, hb10⟩ := one_alloc w9 (.cells #[.int .i64 ((x : Int) + 1), .int .i64 (y : Int)] 44)
                    rw [← hw10]
                    have HL10 := Lib.hid (lt_of_block hk10)
                    have HK10 := Lib.hid hk10
                    clear hw10 hk10
                    have HF10 := Lib.hid (HF9.out.below hb10)
                    clear f1 f2 f3
                    obtain ⟨f1, f2, f3⟩ := HF10.out.cells
                    have g10a : w10.cell? ⟨w9.heap.size, 0, none⟩ = some (.int .i64 ((x : Int) + 1)) := by rw [blk_cell HK10.out]; rfl
                    have g10b : w10.cell? ⟨w9.heap.size, 1, none⟩ = some (.int .i64 (y : Int)) := by rw [blk_cell HK10.out]; rfl
                    clear hb10
                    have HX1 : Hid ((x : Int) + 1 = ((x + 1 : Nat) : Int)) := by unfold Hid; omega
                    go_wp2_with fail
                    by_cases hx8 : x + 1 ≤ 7
                    · have hs2 : spotB 7 ((x : Int) + 1) y = true := (spotB_iff _ _ _).2 ⟨by omega, by omega⟩
                      refine (specCellOk_any ((x : Int) + 1) (y : Int) _).mono ?_
                      rintro e w11 ⟨rfl, hb11⟩
                      rw [hs2]
                      clear g10a g10b
                      have HK11 := Lib.hid (blk_below HK10.out hb11)
                      have g11a : w11.cell? ⟨w9.heap.size, 0, none⟩ = some (.int .i64 ((x : Int) + 1)) := by rw [blk_cell HK11.out]; rfl
                      have g11b : w11.cell? ⟨w9.heap.size, 1, none⟩ = some (.int .i64 (y : Int)) := by rw [blk_cell HK11.out]; rfl
                      have HF11 := Lib.hid (HF10.out.below hb11)
                      clear f1 f2 f3
                      obtain ⟨f1, f2, f3⟩ := HF11.out.cells
                      have HR1 : Hid (hasB (setZ rows) (x + 1) y = r) := by unfold Hid; rw [HT.out, ← HR.out]; simp [hasC, hx8, hy7]
                      go_wp2_with fail
                      rw [HX1.out]
                      obtain ⟨B12, hB12, hr12⟩ := HF11.out.rd
                      refine (l03Has_yes v rows B12 _ hr12 (Nat.le_trans hB12 HF11.out.big.size) hok (x + 1) y (by omega) (by omega)).mono ?_
                      rintro e w12 ⟨rfl, hb12⟩
                      rw [HR1.out]
                      clear hr12
                      have HF12 := Lib.hid (HF11.out.below hb12)
                      clear f1 f2 f3
                      obtain ⟨f1, f2, f3⟩ := HF12.out.cells
                      clear g11a g11b
                      cases r
                      · have HE : Hid (QF w w12 v rows w.heap.size gn n1 (n1 + 1) x y zs (st (k + 1))) := by rw [HX0.out]; exact HF12.out
                        go_wp2_with fail
                        go_roundw
                        case rel => exact ⟨k + 1, by omega, by go_num, HE⟩
                        case measure => simp [intOf]; omega
                      · obtain ⟨_, _, z3, z4, z5⟩ := bits_at k (x + 1) hlt hx8
                        cases hb2 : k.testBit (x + 1)
                        · rw [hb2] at z4 HX0
                          have z4' : (bits .and .i64 ((k : Int) / 2 ^ (x + 1)) 1 == 0) = true := by rw [show (2 : Int) ^ (x + 1) = ((2 ^ (x + 1) : Nat) : Int) by simp, z4]; rfl
                          have HZ3 := Lib.hid z3
                          have HZ5 := Lib.hid z5
                          clear z3 z4 z5
                          obtain ⟨j, HJ⟩ : ∃ j : Nat, Hid (k ||| 2 ^ (x + 1) = j) := ⟨_, rfl⟩
                          have hj2 : j < 256 := by rw [← HJ.out]; exact HZ5.out
                          have hji : bits .or .i64 (k : Int) (wrap64 (2 ^ (x + 1))) = (j : Int) := by rw [← HJ.out]; exact (by rw [shl_q _ hx8]; exact HZ3.out)
                          have hji2 : bits .or .i64 (k : Int) (IntKind.i64.wrap (2 ^ (x + 1))) = (j : Int) := by rw [IntWalk.i64_left]; exact hji
                          have hxw : IntKind.i64.wrap ((x : Int) + 1) = (x : Int) + 1 := IntWalk.i64_in _ (by omega)
                          have hj0 : (0 : Int) ≤ (j : Int) := by omega
                          have hj1 : (j : Int) < 256 := by omega
                          rw [HJ.out] at HX0
                          obtain ⟨q, HQQ⟩ : ∃ q, Hid (el (putZ nx jb n) j = q) := ⟨_, rfl⟩
                          obtain ⟨s9, HS9⟩ : ∃ s, Hid (wrap64 (q + n) = s) := ⟨_, rfl⟩
                          have hqw : wrap64 (q + n) = s9 := HS9.out
                          have hqw2 : IntKind.i64.wrap (q + n) = s9 := by rw [IntWalk.i64_left]; exact HS9.out
                          have cx := HF12.out.rx.cell (k := j) hj2
                          rw [HQQ.out] at cx
                          go_wp2_with fail
                          go_still_tail 17, (by kernel_rfl)
                          change wpList _ _ _ _ _ w12.drew
                          have HFD := Lib.hid (HF12.out.below (Below.refl w12.heap.size w12).drew)
                          have fx := HFD.out.rx.free j
                          have cx' := HFD.out.rx.cell (k := j) hj2
                          rw [HQQ.out] at cx'
                          obtain ⟨w13, HW13⟩ : ∃ W, Hid (W = w12.drew.setCell ⟨n1 + 1, j, none⟩ (.int .i64 s9)) := ⟨_, rfl⟩
                          have HF13 : Hid (QF w w13 v rows w.heap.size gn n1 (n1 + 1) x y zs (putZ (putZ nx jb n) j n)) := by
                            have h9 := HFD.out.set j (wrap64 (el (putZ nx jb n) j + n))
                            rw [HW13.out, ← HS9.out, ← HQQ.out]
                            exact h9
                          clear f1 f2 f3 cx
                          generalize w12.drew = wD at *
                          clear hqw hqw2 hji hji2 hxw
                          have HE : Hid (QF w w13 v rows w.heap.size gn n1 (n1 + 1) x y zs (st (k + 1))) := by rw [HX0.out]; exact HF13.out
                          rw [HW13.out] at HE
                          go_wp2_with fail
                          go_roundw
                          case rel => exact ⟨k + 1, by omega, by go_num, HE⟩
                          case measure => simp [intOf]; omega
                        · rw [hb2] at z4 HX0
                          have z4' : (bits .and .i64 ((k : Int) / 2 ^ (x + 1)) 1 == 0) = false := by rw [show (2 : Int) ^ (x + 1) = ((2 ^ (x + 1) : Nat) : Int) by simp, z4]; rfl
                          clear z3 z4 z5
                          have HE : Hid (QF w w12 v rows w.heap.size gn n1 (n1 + 1) x y zs (st (k + 1))) := by rw [HX0.out]; exact HF12.out
                          go_wp2_with fail
                          go_roundw
                          case rel => exact ⟨k + 1, by omega, by go_num, HE⟩
                          case measure => simp [intOf]; omega
                    · have hs2 : spotB 7 ((x : Int) + 1) y = false := by
                        cases hs : spotB 7 ((x : Int) + 1) y
                        · rfl
                        · have := (spotB_iff _ _ _).1 hs; omega
                      have hr0 : r = false := by rw [← HR.out]; simp [hasC, hx8]
                      subst hr0
                      refine (specCellOk_any ((x : Int) + 1) (y : Int) _).mono ?_
                      rintro e w11 ⟨rfl, hb11⟩
                      rw [hs2]
                      clear g10a g10b
                      have HK11 := Lib.hid (blk_below HK10.out hb11)
                      have g11a : w11.cell? ⟨w9.heap.size, 0, none⟩ = some (.int .i64 ((x : Int) + 1)) := by rw [blk_cell HK11.out]; rfl
                      have g11b : w11.cell? ⟨w9.heap.size, 1, none⟩ = some (.int .i64 (y : Int)) := by rw [blk_cell HK11.out]; rfl
                      have HF11 := Lib.hid (HF10.out.below hb11)
                      clear f1 f2 f3
                      obtain ⟨f1, f2, f3⟩ := HF11.out.cells
                      have HE : Hid (QF w w11 v rows w.heap.size gn n1 (n1 + 1) x y zs (st (k + 1))) := by rw [HX0.out]; exact HF11.out
                      go_wp2_with fail
                      go_roundw
                      case rel => exact ⟨k + 1, by omega, by go_num, HE⟩
                      case measure => simp [intOf]; omega
                · have hs : spotB 7 x ((y : Int) + 1) = false := by
                    cases hs : spotB 7 x ((y : Int) + 1)
                    · rfl
                    · have := (spotB_iff _ _ _).1 hs; omega
                  have hb0 : b = false := by rw [← HB.out]; simp [hasC, hy8]
                  subst hb0
                  refine (specCellOk_any (x : Int) ((y : Int) + 1) _).mono ?_
                  rintro e w7 ⟨rfl, hb7⟩
                  rw [hs]
                  clear g6a g6b
                  have HK7 := Lib.hid (blk_below HK6.out hb7)
                  have g7a : w7.cell? ⟨w5.heap.size, 0, none⟩ = some (.int .i64 (x : Int)) := by rw [blk_cell HK7.out]; rfl
                  have g7b : w7.cell? ⟨w5.heap.size, 1, none⟩ = some (.int .i64 ((y : Int) + 1)) := by rw [blk_cell HK7.out]; rfl
                  have HF7 := Lib.hid (HF6.out.below hb7)
                  clear f1 f2 f3
                  obtain ⟨f1, f2, f3⟩ := HF7.out.cells
                  clear g7a g7b
                  have HX0 : Hid (st (k + 1) = if r && !k.testBit (x + 1) then putZ nx (k ||| 2 ^ (x + 1)) n else nx) := HX0.out
                  go_wp2_with fail
                  obtain ⟨w8, hw8, hk8, hb8⟩ := one_alloc w7 (.cells #[.int .i64 ((x : Int) + 1), .int .i64 (y : Int)] 44)
                  rw [← hw8]
                  have HL8 := Lib.hid (lt_of_block hk8)
                  have HK8 := Lib.hid hk8
                  clear hw8 hk8
                  have HF8 := Lib.hid (HF7.out.below hb8)
                  clear f1 f2 f3
                  obtain ⟨f1, f2, f3⟩ := HF8.out.cells
                  have g8a : w8.cell? ⟨w7.heap.size, 0, none⟩ = some (.int .i64 ((x : Int) + 1)) := by rw [blk_cell HK8.out]; rfl
                  have g8b : w8.cell? ⟨w7.heap.size, 1, none⟩ = some (.int .i64 (y : Int)) := by rw [blk_cell HK8.out]; rfl
                  clear hb8
                  have HX1 : Hid ((x : Int) + 1 = ((x + 1 : Nat) : Int)) := by unfold Hid; omega
                  go_wp2_with fail
                  by_cases hx8 : x + 1 ≤ 7
                  · have hs2 : spotB 7 ((x : Int) + 1) y = true := (spotB_iff _ _ _).2 ⟨by omega, by omega⟩
                    refine (specCellOk_any ((x : Int) + 1) (y : Int) _).mono ?_
                    rintro e w9 ⟨rfl, hb9⟩
                    rw [hs2]
                    clear g8a g8b
                    have HK9 := Lib.hid (blk_below HK8.out hb9)
                    have g9a : w9.cell? ⟨w7.heap.size, 0, none⟩ = some (.int .i64 ((x : Int) + 1)) := by rw [blk_cell HK9.out]; rfl
                    have g9b : w9.cell? ⟨w7.heap.size, 1, none⟩ = some (.int .i64 (y : Int)) := by rw [blk_cell HK9.out]; rfl
                    have HF9 := Lib.hid (HF8.out.below hb9)
                    clear f1 f2 f3
                    obtain ⟨f1, f2, f3⟩ := HF9.out.cells
                    have HR1 : Hid (hasB (setZ rows) (x + 1) y = r) := by unfold Hid; rw [HT.out, ← HR.out]; simp [hasC, hx8, hy7]
                    go_wp2_with fail
                    rw [HX1.out]
                    obtain ⟨B10, hB10, hr10⟩ := HF9.out.rd
                    refine (l03Has_yes v rows B10 _ hr10 (Nat.le_trans hB10 HF9.out.big.size) hok (x + 1) y (by omega) (by omega)).mono ?_
                    rintro e w10 ⟨rfl, hb10⟩
                    rw [HR1.out]
                    clear hr10
                    have HF10 := Lib.hid (HF9.out.below hb10)
                    clear f1 f2 f3
                    obtain ⟨f1, f2, f3⟩ := HF10.out.cells
                    clear g9a g9b
                    cases r
                    · have HE : Hid (QF w w10 v rows w.heap.size gn n1 (n1 + 1) x y zs (st (k + 1))) := by rw [HX0.out]; exact HF10.out
                      go_wp2_with fail
                      go_roundw
                      case rel => exact ⟨k + 1, by omega, by go_num, HE⟩
                      case measure => simp [intOf]; omega
                    · obtain ⟨_, _, z3, z4, z5⟩ := bits_at k (x + 1) hlt hx8
                      cases hb2 : k.testBit (x + 1)
                      · rw [hb2] at z4 HX0
                        have z4' : (bits .and .i64 ((k : Int) / 2 ^ (x + 1)) 1 == 0) = true := by rw [show (2 : Int) ^ (x + 1) = ((2 ^ (x + 1) : Nat) : Int) by simp, z4]; rfl
                        have HZ3 := Lib.hid z3
                        have HZ5 := Lib.hid z5
                        clear z3 z4 z5
                        obtain ⟨j, HJ⟩ : ∃ j : Nat, Hid (k ||| 2 ^ (x + 1) = j) := ⟨_, rfl⟩
                        have hj2 : j < 256 := by rw [← HJ.out]; exact HZ5.out
                        have hji : bits .or .i64 (k : Int) (wrap64 (2 ^ (x + 1))) = (j : Int) := by rw [← HJ.out]; exact (by rw [shl_q _ hx8]; exact HZ3.out)
                        have hji2 : bits .or .i64 (k : Int) (IntKind.i64.wrap (2 ^ (x + 1))) = (j : Int) := by rw [IntWalk.i64_left]; exact hji
                        have hxw : IntKind.i64.wrap ((x : Int) + 1) = (x : Int) + 1 := IntWalk.i64_in _ (by omega)
                        have hj0 : (0 : Int) ≤ (j : Int) := by omega
                        have hj1 : (j : Int) < 256 := by omega
                        rw [HJ.out] at HX0
                        obtain ⟨q, HQQ⟩ : ∃ q, Hid (el nx j = q) := ⟨_, rfl⟩
                        obtain ⟨s9, HS9⟩ : ∃ s, Hid (wrap64 (q + n) = s) := ⟨_, rfl⟩
                        have hqw : wrap64 (q + n) = s9 := HS9.out
                        have hqw2 : IntKind.i64.wrap (q + n) = s9 := by rw [IntWalk.i64_left]; exact HS9.out
                        have cx := HF10.out.rx.cell (k := j) hj2
                        rw [HQQ.out] at cx
                        go_wp2_with fail
                        go_still_tail 17, (by kernel_rfl)
                        change wpList _ _ _ _ _ w10.drew
                        have HFD := Lib.hid (HF10.out.below (Below.refl w10.heap.size w10).drew)
                        have fx := HFD.out.rx.free j
                        have cx' := HFD.out.rx.cell (k := j) hj2
                        rw [HQQ.out] at cx'
                        obtain ⟨w11, HW11⟩ : ∃ W, Hid (W = w10.drew.setCell ⟨n1 + 1, j, none⟩ (.int .i64 s9)) := ⟨_, rfl⟩
                        have HF11 : Hid (QF w w11 v rows w.heap.size gn n1 (n1 + 1) x y zs (putZ nx j n)) := by
                          have h9 := HFD.out.set j (wrap64 (el nx j + n))
                          rw [HW11.out, ← HS9.out, ← HQQ.out]
                          exact h9
                        clear f1 f2 f3 cx
                        generalize w10.drew = wD at *
                        clear hqw hqw2 hji hji2 hxw
                        have HE : Hid (QF w w11 v rows w.heap.size gn n1 (n1 + 1) x y zs (st (k + 1))) := by rw [HX0.out]; exact HF11.out
                        rw [HW11.out] at HE
                        go_wp2_with fail
                        go_roundw
                        case rel => exact ⟨k + 1, by omega, by go_num, HE⟩
                        case measure => simp [intOf]; omega
                      · rw [hb2] at z4 HX0
                        have z4' : (bits .and .i64 ((k : Int) / 2 ^ (x + 1)) 1 == 0) = false := by rw [show (2 : Int) ^ (x + 1) = ((2 ^ (x + 1) : Nat) : Int) by simp, z4]; rfl
                        clear z3 z4 z5
                        have HE : Hid (QF w w10 v rows w.heap.size gn n1 (n1 + 1) x y zs (st (k + 1))) := by rw [HX0.out]; exact HF10.out
                        go_wp2_with fail
                        go_roundw
                        case rel => exact ⟨k + 1, by omega, by go_num, HE⟩
                        case measure => simp [intOf]; omega
                  · have hs2 : spotB 7 ((x : Int) + 1) y = false := by
                      cases hs : spotB 7 ((x : Int) + 1) y
                      · rfl
                      · have := (spotB_iff _ _ _).1 hs; omega
                    have hr0 : r = false := by rw [← HR.out]; simp [hasC, hx8]
                    subst hr0
                    refine (specCellOk_any ((x : Int) + 1) (y : Int) _).mono ?_
                    rintro e w9 ⟨rfl, hb9⟩
                    rw [hs2]
                    clear g8a g8b
                    have HK9 := Lib.hid (blk_below HK8.out hb9)
                    have g9a : w9.cell? ⟨w7.heap.size, 0, none⟩ = some (.int .i64 ((x : Int) + 1)) := by rw [blk_cell HK9.out]; rfl
                    have g9b : w9.cell? ⟨w7.heap.size, 1, none⟩ = some (.int .i64 (y : Int)) := by rw [blk_cell HK9.out]; rfl
                    have HF9 := Lib.hid (HF8.out.below hb9)
                    clear f1 f2 f3
                    obtain ⟨f1, f2, f3⟩ := HF9.out.cells
                    have HE : Hid (QF w w9 v rows w.heap.size gn n1 (n1 + 1) x y zs (st (k + 1))) := by rw [HX0.out]; exact HF9.out
                    go_wp2_with fail
                    go_roundw
                    case rel => exact ⟨k + 1, by omega, by go_num, HE⟩
                    case measure => simp [intOf]; omega
            · rw [hb] at hsh
              have HFR : Hid (wrap64 ((k : Int) - wrap64 (2 ^ x)) = ((k - 2 ^ x : Nat) : Int)) := by
                unfold Hid
                rw [shl_q x hx7]
                have h1 : 2 ^ x ≤ k := Nat.ge_two_pow_of_testBit hb
                generalize (2 ^ x : Nat) = p at *
                unfold wrap64; omega
              cases h
              · have HX : Hid (st (k + 1) = nx) := by unfold Hid; rw [HIN.out, inZ, if_neg hn0]; simp [hb]
                clear hn0
                go_wp2_with fail
                rw [HFR.out]
                obtain ⟨B5, hB5, hr5⟩ := HF4.out.rd
                refine (l03Has_yes v rows B5 _ hr5 (Nat.le_trans hB5 HF4.out.big.size) hok x y (by omega) (by omega)).mono ?_
                rintro e w5 ⟨rfl, hb5⟩
                rw [HH1.out]
                clear hr5
                have HF5 := Lib.hid (HF4.out.below hb5)
                clear f1 f2 f3
                obtain ⟨f1, f2, f3⟩ := HF5.out.cells
                have HE : Hid (QF w w5 v rows w.heap.size gn n1 (n1 + 1) x y zs (st (k + 1))) := by rw [HX.out]; exact HF5.out
                go_wp2_with fail
                go_roundw
                case rel => exact ⟨k + 1, by omega, by go_num, HE⟩
                case measure => simp [intOf]; omega
              · have HX : Hid (st (k + 1) = putZ nx (k - 2 ^ x) n) := by unfold Hid; rw [HIN.out, inZ, if_neg hn0]; simp [hb]
                clear hn0
                go_wp2_with fail
                rw [HFR.out]
                obtain ⟨B5, hB5, hr5⟩ := HF4.out.rd
                refine (l03Has_yes v rows B5 _ hr5 (Nat.le_trans hB5 HF4.out.big.size) hok x y (by omega) (by omega)).mono ?_
                rintro e w5 ⟨rfl, hb5⟩
                rw [HH1.out]
                clear hr5
                have HF5 := Lib.hid (HF4.out.below hb5)
                clear f1 f2 f3
                obtain ⟨f1, f2, f3⟩ := HF5.out.cells
                obtain ⟨j, HJ⟩ : ∃ j : Nat, Hid (k - 2 ^ x = j) := ⟨_, rfl⟩
                have hj2 : j < 256 := by rw [← HJ.out]; exact Nat.lt_of_le_of_lt (Nat.sub_le _ _) hlt
                rw [HJ.out] at HX ⊢
                clear HFR
                have hj0 : (0 : Int) ≤ (j : Int) := by omega
                have hj1 : (j : Int) < 256 := by omega
                have cx := HF5.out.rx.cell (k := j) hj2
                have fx := HF5.out.rx.free (j)
                have HE : Hid (QF w (w5.setCell ⟨n1 + 1, j, none⟩ (.int .i64 (wrap64 (el nx (j) + n)))) v rows w.heap.size gn n1 (n1 + 1) x y zs (st (k + 1))) := by rw [HX.out]; exact HF5.out.set (j) _
                generalize el nx (j) = q at *
                go_wp2_with fail
                go_roundw
                case rel => exact ⟨k + 1, by omega, by go_num, HE⟩
                case measure => simp [intOf]; omega
        · have ht : decide ((k : Int) < 256) = false := by simp only [decide_eq_false_iff_not]; omega
          obtain rfl : k = 256 := by omega
          rw [← HS.out] at HF4
          have HFN : Hid (QB w wr v rows w.heap.size (n1 + 1) (pf (i + 1))) := by
            have h := HF4.out
            rw [HZS2.out]
            exact ⟨h.er, h.rx, h.big, h.rd, h.l1, h.lx⟩
          go_wp2_with fail
          go_roundw
          case rel => exact ⟨i + 1, _, by omega, by go_num, rfl, HFN⟩
          case measure => simp [intOf]; omega
    · have hti : decide ((i : Int) < 64) = false := by simp only [decide_eq_false_iff_not]; omega
      obtain rfl : i = 64 := by omega
      have cq := HQ.out.rn.cell (k := 0) (by omega)
      have HF : Hid (el (pf 64) 0 = res) := (HFZ.out _ rfl).symm
      go_wp2_with fail
      go_ret
      exact ⟨ret_int HF.out, HQ.out.big⟩
end Go.Proofs.Ytehnbalbpfmijaa

namespace Go.Proofs.Ytehnbalbpfmijaa
open Go.RowKit
set_option linter.unusedVariables false

/-- The rows without a domino across. -/
def offDom (zs : List Int) (x y : Nat) : List Int := offRow (offRow zs x y) (x + 1) y
set_option maxRecDepth 100000 in
set_option maxHeartbeats 1000000 in
theorem CountWith_yes (v : Value) (zs : List Int) (B : Nat) (w : World) (h : RdI w B v zs) (hB : B ≤ w.heap.size) (hok : regOkB zs = true) (x y : Nat) (hx : x ≤ 6) (hy : y ≤ 7) (hok1 : regOkB (offRow zs x y) = true) (hok2 : regOkB (offDom zs x y) = true) (ha : hasB (setZ zs) x y = true) (hb : hasB (setZ zs) (x + 1) y = true) :
    Calls Try.prog 163 #[.agg #[v], triV (x : Int) (y : Int) false] w fun e w' => e = .returned (.int .i64 (profZ (setZ (offDom zs x y)))) ∧ Below w.heap.size w w' := by
  have hdm : domB (x : Int) (y : Int) false = true := (domB_iff _ _ _).2 ⟨by omega, by simp; omega⟩
  have hsx : sndX (x : Int) false = ((x + 1 : Nat) : Int) := by unfold sndX; simp; unfold wrap64; omega
  have hsy : sndY (y : Int) false = (y : Int) := by unfold sndY; simp
  have HDO := Lib.hid (fun V => specDominoOk_any (x : Int) (y : Int) false V)
  have HCU := Lib.hid (fun V => CellsUnder_yes (x : Int) (y : Int) false V hdm)
  rw [hsx, hsy] at HCU
  rw [hdm] at HDO
  have HH1 := Lib.hid (fun V (hV : Below w.heap.size w V) => HasCell_yes v zs B V (h.below (hV.mono hB)) (Nat.le_trans hB hV.size) hok x y (by omega) hy)
  have HH2 := Lib.hid (fun V (hV : Below w.heap.size w V) => HasCell_yes v zs B V (h.below (hV.mono hB)) (Nat.le_trans hB hV.size) hok (x + 1) y (by omega) hy)
  rw [ha] at HH1
  rw [hb] at HH2
  have HW1 := Lib.hid (fun V (hV : Below w.heap.size w V) => WithCell_off v zs B V (h.below (hV.mono hB)) (Nat.le_trans hB hV.size) hok x y (by omega) hy)
  have HW2 := Lib.hid (fun u V (hu : RdI V V.heap.size u (offRow zs x y)) => WithCell_off u (offRow zs x y) V.heap.size V hu (Nat.le_refl _) hok1 (x + 1) y (by omega) hy)
  have HOD : Hid (offRow (offRow zs x y) (x + 1) y = offDom zs x y) := rfl
  rw [HOD.out] at HW2
  have HLC := Lib.hid (fun u V (hu : RdI V V.heap.size u (offDom zs x y)) => l07Count_yes u (offDom zs x y) V.heap.size V hu (Nat.le_refl _) hok2)
  obtain ⟨A, c, rfl, g1, g2, _⟩ := h
  unfold maxLen at g2
  clear hdm hsx hsy hok hok1 hok2 ha hb HOD
  generalize profZ (setZ (offDom zs x y)) = p at *
  generalize offDom zs x y = zs2 at *
  generalize offRow zs x y = zs1 at *
  obtain ⟨X, HX⟩ : ∃ X : Int, Hid ((x : Int) = X) := ⟨_, rfl⟩
  obtain ⟨X1, HX1⟩ : ∃ X1 : Int, Hid (((x + 1 : Nat) : Int) = X1) := ⟨_, rfl⟩
  obtain ⟨Y, HY⟩ : ∃ Y : Int, Hid ((y : Int) = Y) := ⟨_, rfl⟩
  rw [HX.out, HY.out] at HDO HCU HH1 HW1 ⊢
  rw [HX1.out] at HCU
  rw [HX1.out, HY.out] at HH2 HW2
  obtain ⟨W, hW, k0, k1, hb0⟩ := two_alloc w (.cells #[.slice A zs.length c] 39) (triO X Y false 46)
  have HK0 := Lib.hid k0; have HK1 := Lib.hid k1
  have HB0 := Lib.hid hb0
  have c0 : W.cell? ⟨w.heap.size, 0, none⟩ = some (.slice A zs.length c) := by rw [blk_cell k0]; rfl
  have c1 : W.cell? ⟨w.heap.size + 1, 0, none⟩ = some (.int .i64 X) := by rw [blk_cell k1]; rfl
  have c2 : W.cell? ⟨w.heap.size + 1, 1, none⟩ = some (.int .i64 Y) := by rw [blk_cell k1]; rfl
  have c3 : W.cell? ⟨w.heap.size + 1, 2, none⟩ = some (.bool false) := by rw [blk_cell k1]; rfl
  go_enter Try.func163, Try.ntmps163
  go_upto_region 1 with (fail)
  rw [← hW]
  clear hW k0 k1 hb0
  go_wp2_with fail
  refine (HDO.out W).mono ?_
  rintro e w1 ⟨rfl, hb1⟩
  have HB1 := Lib.hid (HB0.out.trans (hb1.mono HB0.out.size))
  have HK01 := Lib.hid (blk_below HK0.out hb1); have HK11 := Lib.hid (blk_below HK1.out hb1)
  have d1 : w1.cell? ⟨w.heap.size + 1, 0, none⟩ = some (.int .i64 X) := by rw [blk_cell HK11.out]; rfl
  have d2 : w1.cell? ⟨w.heap.size + 1, 1, none⟩ = some (.int .i64 Y) := by rw [blk_cell HK11.out]; rfl
  have d3 : w1.cell? ⟨w.heap.size + 1, 2, none⟩ = some (.bool false) := by rw [blk_cell HK11.out]; rfl
  clear hb1 c0 c1 c2 c3
  go_wp2_with fail
  refine (HCU.out w1).mono ?_
  rintro e w2 ⟨rfl, hb2⟩
  have HB2 := Lib.hid (HB1.out.trans (hb2.mono HB1.out.size))
  have HK02 := Lib.hid (blk_below HK01.out hb2)
  obtain ⟨V2, hV2, p1, p2, hbv2⟩ := two_alloc w2 (.cells #[.int .i64 X, .int .i64 Y] 44) (.cells #[.int .i64 X1, .int .i64 Y] 44)
  have HBV2 := Lib.hid (HB2.out.trans (hbv2.mono HB2.out.size))
  have HKV2 := Lib.hid (blk_below HK02.out hbv2)
  have HP1 := Lib.hid p1; have HP2 := Lib.hid p2
  have e0 : V2.cell? ⟨w.heap.size, 0, none⟩ = some (.slice A zs.length c) := by rw [blk_cell HKV2.out]; rfl
  have e1 : V2.cell? ⟨w2.heap.size, 0, none⟩ = some (.int .i64 X) := by rw [blk_cell p1]; rfl
  have e2 : V2.cell? ⟨w2.heap.size, 1, none⟩ = some (.int .i64 Y) := by rw [blk_cell p1]; rfl
  have HV2 := Lib.hid hV2
  rw [hV2] at e0 e1 e2
  clear hV2 p1 p2 hbv2 hb2 d1 d2 d3
  go_wp2_with fail
  rw [← HV2.out]
  clear e0 e1 e2 HV2
  refine (HH1.out V2 HBV2.out).mono ?_
  rintro e w3 ⟨rfl, hb3⟩
  have HB3 := Lib.hid (HBV2.out.trans (hb3.mono HBV2.out.size))
  have HK3 := Lib.hid (blk_below HKV2.out hb3)
  have HP13 := Lib.hid (blk_below HP1.out hb3); have HP23 := Lib.hid (blk_below HP2.out hb3)
  have e0 : w3.cell? ⟨w.heap.size, 0, none⟩ = some (.slice A zs.length c) := by rw [blk_cell HK3.out]; rfl
  have e1 : w3.cell? ⟨w2.heap.size + 1, 0, none⟩ = some (.int .i64 X1) := by rw [blk_cell HP23.out]; rfl
  have e2 : w3.cell? ⟨w2.heap.size + 1, 1, none⟩ = some (.int .i64 Y) := by rw [blk_cell HP23.out]; rfl
  clear hb3
  go_wp2_with fail
  refine (HH2.out w3 HB3.out).mono ?_
  rintro e w4 ⟨rfl, hb4⟩
  have HB4 := Lib.hid (HB3.out.trans (hb4.mono HB3.out.size))
  have HK4 := Lib.hid (blk_below HK3.out hb4)
  have HP14 := Lib.hid (blk_below HP13.out hb4); have HP24 := Lib.hid (blk_below HP23.out hb4)
  clear hb4 e0 e1 e2
  have e0 : w4.cell? ⟨w.heap.size, 0, none⟩ = some (.slice A zs.length c) := by rw [blk_cell HK4.out]; rfl
  have e1 : w4.cell? ⟨w2.heap.size, 0, none⟩ = some (.int .i64 X) := by rw [blk_cell HP14.out]; rfl
  have e2 : w4.cell? ⟨w2.heap.size, 1, none⟩ = some (.int .i64 Y) := by rw [blk_cell HP14.out]; rfl
  go_wp2_with fail
  refine (HW1.out w4 HB4.out).mono ?_
  rintro e w5 ⟨u5, rfl, ho5, hb5⟩
  have hr5 := ho5.rd
  clear ho5
  have HB5 := Lib.hid (HB4.out.trans (hb5.mono HB4.out.size))
  have HP25 := Lib.hid (blk_below HP24.out hb5)
  obtain ⟨V6, hV6, k6, hb6⟩ := one_alloc w5 (.cells #[u5] 39)
  have HB6 := Lib.hid (HB5.out.trans (hb6.mono HB5.out.size))
  have HP26 := Lib.hid (blk_below HP25.out hb6)
  have HR6 := Lib.hid ((hr5.below hb6).more hb6.size)
  have m0 : V6.cell? ⟨w5.heap.size, 0, none⟩ = some u5 := by rw [blk_cell k6]; rfl
  have m1 : V6.cell? ⟨w2.heap.size + 1, 0, none⟩ = some (.int .i64 X1) := by rw [blk_cell HP26.out]; rfl
  have m2 : V6.cell? ⟨w2.heap.size + 1, 1, none⟩ = some (.int .i64 Y) := by rw [blk_cell HP26.out]; rfl
  have HV6 := Lib.hid hV6
  rw [hV6] at m0 m1 m2
  obtain ⟨A5, c5, rfl, _, _, _⟩ := hr5
  clear hV6 k6 hb6 hb5 e0 e1 e2
  go_wp2_with fail
  rw [← HV6.out]
  clear m0 m1 m2 HV6
  refine (HW2.out _ V6 HR6.out).mono ?_
  rintro e w7 ⟨u7, rfl, ho7, hb7⟩
  have hr7 := ho7.rd
  clear ho7
  have HB7 := Lib.hid (HB6.out.trans (hb7.mono HB6.out.size))
  obtain ⟨V8, hV8, k8, hb8⟩ := one_alloc w7 (.cells #[u7] 39)
  have HB8 := Lib.hid (HB7.out.trans (hb8.mono HB7.out.size))
  have HR8 := Lib.hid ((hr7.below hb8).more hb8.size)
  have m0 : V8.cell? ⟨w7.heap.size, 0, none⟩ = some u7 := by rw [blk_cell k8]; rfl
  have HV8 := Lib.hid hV8
  rw [hV8] at m0
  obtain ⟨A7, c7, rfl, _, _, _⟩ := hr7
  clear hV8 k8 hb8 hb7
  go_wp2_with fail
  rw [← HV8.out]
  clear m0 HV8
  refine (HLC.out _ V8 HR8.out).mono ?_
  rintro e w9 ⟨rfl, hb9⟩
  have HB9 := Lib.hid (HB8.out.trans (hb9.mono HB8.out.size))
  clear hb9
  go_wp2_with fail
  go_ret
  exact ⟨rfl, HB9.out⟩
end Go.Proofs.Ytehnbalbpfmijaa

namespace Go.Proofs.Ytehnbalbpfmijaa
open Go.RowKit
set_option linter.unusedVariables false

def NN (zs : List Int) : Prop := ∀ x ∈ zs, 0 ≤ x
theorem NN.atk {zs : List Int} (h : NN zs) (k : Nat) : 0 ≤ el zs k := by
  by_cases hk : k < zs.length
  · rw [el_get _ _ hk]; exact h _ (List.getElem_mem _)
  · unfold el; simp [hk]
theorem NN.sum {zs : List Int} (h : NN zs) : 0 ≤ zs.sum := by
  induction zs with
  | nil => simp
  | cons z zs ih =>
    have h1 := h z (by simp)
    have h2 := ih fun x hx => h x (by simp [hx])
    simp only [List.sum_cons]; omega
theorem NN.le {zs : List Int} (h : NN zs) (k : Nat) : el zs k ≤ zs.sum := by
  induction zs generalizing k with
  | nil => simp [el]
  | cons z zs ih =>
    have h1 := h z (by simp)
    have h2 : NN zs := fun x hx => h x (by simp [hx])
    have h3 := h2.sum
    simp only [List.sum_cons]
    cases k with
    | zero => simp [el]; omega
    | succ k => have := ih h2 k; simp [el] at this ⊢; omega
theorem sum_set (zs : List Int) (j : Nat) (z : Int) (hj : j < zs.length) : (zs.set j z).sum = zs.sum - el zs j + z := by
  induction zs generalizing j with
  | nil => simp at hj
  | cons y ys ih =>
    cases j with
    | zero => simp [el]; omega
    | succ j =>
      have := ih j (by simpa using hj)
      simp [el] at this ⊢; omega
theorem NN.put {nx : List Int} {j : Nat} {n : Int} (h : NN nx) (hn : 0 ≤ n) (hs : nx.sum + n ≤ 1099511627776) : NN (putZ nx j n) ∧ (putZ nx j n).sum ≤ nx.sum + n := by
  have h1 := h.atk j
  have h2 := h.le j
  have hw : wrap64 (el nx j + n) = el nx j + n := by unfold wrap64; omega
  unfold putZ
  rw [hw]
  refine ⟨fun x hx => ?_, ?_⟩
  · rcases List.mem_or_eq_of_mem_set hx with hx | hx
    · exact h x hx
    · omega
  · by_cases hj : j < nx.length
    · rw [sum_set _ _ _ hj]; omega
    · rw [List.set_eq_of_length_le (by omega)]; omega
def cF (h : Bool) : Int := if h then 2 else 1
theorem NN.in_ {h b r : Bool} {x k : Nat} {n : Int} {nx : List Int} (hx : NN nx) (hn : 0 ≤ n) (hs : nx.sum + 2 * n ≤ 1099511627776) : NN (inZ h b r x n k nx) ∧ (inZ h b r x n k nx).sum ≤ nx.sum + cF h * n := by
  have p1 := fun j => hx.put (j := j) hn (by omega)
  unfold inZ cF
  by_cases h0 : n = 0
  · rw [if_pos h0]; refine ⟨hx, ?_⟩; subst h0; simp
  · rw [if_neg h0]
    cases h
    · simp only [Bool.false_eq_true, if_false]
      split
      · exact ⟨hx, by omega⟩
      · have := p1 k; exact ⟨this.1, by have := this.2; omega⟩
    · simp only [if_true]
      split
      · have := p1 (k - 2 ^ x); exact ⟨this.1, by have := this.2; omega⟩
      · split
        · cases b
          · have := p1 (k ||| 2 ^ (x + 1)); simp only [Bool.false_eq_true, if_false]; exact ⟨this.1, by have := this.2; omega⟩
          · have h1 := p1 (k ||| 2 ^ x)
            have h2 := h1.1.put (j := k ||| 2 ^ (x + 1)) hn (by have := h1.2; omega)
            simp only [if_true]
            exact ⟨h2.1, by have := h1.2; have := h2.2; omega⟩
        · cases b
          · simp only [Bool.false_eq_true, if_false]; exact ⟨hx, by omega⟩
          · have := p1 (k ||| 2 ^ x); simp only [if_true]; exact ⟨this.1, by have := this.2; omega⟩
theorem sum_take (zs : List Int) : ∀ k, (zs.take (k + 1)).sum = (zs.take k).sum + el zs k := by
  induction zs with
  | nil => intro k; simp [el]
  | cons z zs ih =>
    intro k
    cases k with
    | zero => simp [el]
    | succ k => have := ih k; simp [el] at this ⊢; omega
theorem sum_take_le {zs : List Int} (h : NN zs) (k : Nat) : (zs.take k).sum ≤ zs.sum := by
  have h1 : zs.sum = (zs.take k).sum + (zs.drop k).sum := by rw [← List.sum_append, List.take_append_drop]
  have h2 : NN (zs.drop k) := fun x hx => h x (List.mem_of_mem_drop hx)
  have := h2.sum
  omega
theorem zeros_nn : NN zeros := fun x hx => by rw [zeros] at hx; have := List.eq_of_mem_replicate hx; omega
theorem zeros_sum : zeros.sum = 0 := by
  have : ∀ n, (List.replicate n (0 : Int)).sum = 0 := fun n => by induction n with
    | zero => rfl
    | succ n ih => rw [List.replicate_succ, List.sum_cons, ih]; rfl
  exact this 256
theorem NN.step (h b r : Bool) (x : Nat) {zs : List Int} (hz : NN zs) (hs : zs.sum ≤ 274877906944) : ∀ k, NN (stepTo h b r x zs k) ∧ (stepTo h b r x zs k).sum ≤ cF h * (zs.take k).sum
  | 0 => ⟨zeros_nn, by rw [stepTo, zeros_sum]; simp⟩
  | k + 1 => by
    obtain ⟨h1, h2⟩ := NN.step h b r x hz hs k
    have h3 := sum_take zs k
    have h4 := sum_take_le hz (k + 1)
    have h5 := hz.atk k
    have hc : cF h * (zs.take k).sum ≤ 2 * (zs.take k).sum := by
      have h9 : 0 ≤ (zs.take k).sum := NN.sum fun x hx => hz x (List.mem_of_mem_take hx)
      cases h <;> simp [cF] <;> omega
    obtain ⟨h6, h7⟩ := h1.in_ (h := h) (b := b) (r := r) (x := x) (k := k) h5 (by omega)
    refine ⟨h6, Int.le_trans h7 ?_⟩
    rw [h3, Int.mul_add]
    omega
/-- How many of the first cells a set has. -/
def nCell (T : Nat) : Nat → Nat
  | 0 => 0
  | i + 1 => nCell T i + if hasC T (i % 8) (i / 8) then 1 else 0
theorem NN.prof (T : Nat) : ∀ i, nCell T i ≤ 37 → NN (profTo T i) ∧ (profTo T i).sum ≤ 2 ^ nCell T i
  | 0, _ => by
    refine ⟨fun x hx => ?_, ?_⟩
    · rw [profTo] at hx
      rcases List.mem_or_eq_of_mem_set hx with hx | hx
      · exact zeros_nn x hx
      · omega
    · rw [profTo, sum_set _ _ _ (by rw [zeros_len]; omega), zeros_sum, zeros_el]; simp [nCell]
  | i + 1, hc => by
    have hc2 : nCell T i ≤ 37 := by rw [nCell] at hc; omega
    obtain ⟨h1, h2⟩ := NN.prof T i hc2
    have hp : (2 : Int) ^ nCell T i ≤ 2 ^ 37 := by
      have := Nat.pow_le_pow_right (n := 2) (by omega) hc2
      exact_mod_cast this
    obtain ⟨h3, h4⟩ := NN.step (hasC T (i % 8) (i / 8)) (hasC T (i % 8) (i / 8 + 1)) (hasC T (i % 8 + 1) (i / 8)) (i % 8) h1 (by omega) 256
    refine ⟨h3, ?_⟩
    rw [List.take_of_length_le (by rw [profTo_len]; omega)] at h4
    rw [profTo]
    refine Int.le_trans h4 ?_
    rw [nCell]
    cases hasC T (i % 8) (i / 8)
    · simp [cF]; exact h2
    · simp only [cF, if_true, Int.pow_succ]; omega
theorem prof_bd (T : Nat) (h : nCell T 64 ≤ 37) : 0 ≤ profZ T ∧ profZ T ≤ 2 ^ nCell T 64 := by
  obtain ⟨h1, h2⟩ := NN.prof T 64 h
  exact ⟨h1.atk 0, Int.le_trans (h1.le 0) h2⟩
end Go.Proofs.Ytehnbalbpfmijaa

namespace Go.Proofs.Ytehnbalbpfmijaa
open Go.RowKit
set_option linter.unusedVariables false

theorem NN.put_el {nx : List Int} {j : Nat} {n : Int} (h : NN nx) (hn : 0 ≤ n) (hs : nx.sum + n ≤ 1099511627776) (i : Nat) : el nx i ≤ el (putZ nx j n) i ∧ (j < nx.length → i = j → n ≤ el (putZ nx j n) i) := by
  have h1 := h.atk j
  have h2 := h.le j
  have hw : wrap64 (el nx j + n) = el nx j + n := by unfold wrap64; omega
  unfold putZ
  rw [hw, el_set']
  by_cases e : i = j ∧ j < nx.length
  · rw [if_pos e, e.1]
    exact ⟨by omega, fun _ _ => by omega⟩
  · rw [if_neg e]
    exact ⟨Int.le_refl _, fun h1 h2 => absurd ⟨h2, h1⟩ e⟩
theorem NN.in_el {h b r : Bool} {x k : Nat} {n : Int} {nx : List Int} (hx : NN nx) (hn : 0 ≤ n) (hs : nx.sum + 2 * n ≤ 1099511627776) (i : Nat) : el nx i ≤ el (inZ h b r x n k nx) i := by
  have p1 := fun j => hx.put (j := j) hn (by omega)
  have p2 := fun j => (hx.put_el (j := j) hn (by omega) i).1
  unfold inZ
  by_cases h0 : n = 0
  · rw [if_pos h0]; exact Int.le_refl _
  · rw [if_neg h0]
    split
    · split
      · exact p2 _
      · split
        · split
          · refine Int.le_trans (p2 (k ||| 2 ^ x)) ?_
            exact ((p1 (k ||| 2 ^ x)).1.put_el hn (by have := (p1 (k ||| 2 ^ x)).2; omega) i).1
          · exact p2 _
        · split
          · exact p2 _
          · exact Int.le_refl _
    · split
      · exact Int.le_refl _
      · exact p2 _
/-- Where a state goes if a domino across is laid wherever one can be. -/
def nxtS (h r : Bool) (x k : Nat) : Option Nat :=
  if h then (if k.testBit x then some (k - 2 ^ x) else if r && !k.testBit (x + 1) then some (k ||| 2 ^ (x + 1)) else none)
  else if k.testBit x then none else some k
theorem NN.in_at {h b r : Bool} {x k s : Nat} {n : Int} {nx : List Int} (hx : NN nx) (hn : 0 < n) (hs : nx.sum + 2 * n ≤ 1099511627776) (hk : nxtS h r x k = some s) (hl : s < nx.length) : n ≤ el (inZ h b r x n k nx) s := by
  have p1 := fun j => hx.put (j := j) (n := n) (by omega) (by omega)
  have p2 := fun j => (hx.put_el (j := j) (n := n) (by omega) (by omega) s).2
  unfold nxtS at hk
  unfold inZ
  rw [if_neg (by omega)]
  cases h
  · simp only [Bool.false_eq_true, if_false] at hk ⊢
    cases hb : k.testBit x
    · rw [hb] at hk
      simp only [Bool.false_eq_true, if_false, Option.some.injEq] at hk ⊢
      exact p2 k (by rw [hk]; exact hl) hk.symm
    · rw [hb] at hk; simp at hk
  · simp only [if_true] at hk ⊢
    cases hb : k.testBit x
    · rw [hb] at hk
      simp only [Bool.false_eq_true, if_false] at hk ⊢
      cases hr : (r && !k.testBit (x + 1))
      · rw [hr] at hk; simp at hk
      · rw [hr] at hk
        simp only [if_true, Option.some.injEq] at hk ⊢
        split
        · refine ((p1 (k ||| 2 ^ x)).1.put_el (n := n) (by omega) (by have := (p1 (k ||| 2 ^ x)).2; omega) s).2 (by rw [putZ_len, hk]; exact hl) hk.symm
        · exact p2 _ (by rw [hk]; exact hl) hk.symm
    · rw [hb] at hk
      simp only [if_true, Option.some.injEq] at hk ⊢
      exact p2 _ (by rw [hk]; exact hl) hk.symm
theorem NN.step_at (h b r : Bool) (x : Nat) {zs : List Int} (hz : NN zs) (hs : zs.sum ≤ 274877906944) {k s : Nat} (hk : nxtS h r x k = some s) (hl : s < 256) (hp : 0 < el zs k) : ∀ m, k < m → el zs k ≤ el (stepTo h b r x zs m) s
  | 0, h0 => by omega
  | m + 1, hm => by
    obtain ⟨h1, h2⟩ := NN.step h b r x hz hs m
    have h4 := sum_take_le hz (m + 1)
    have h3 := sum_take zs m
    have h5 := hz.atk m
    have h9 : 0 ≤ (zs.take m).sum := NN.sum fun x hx => hz x (List.mem_of_mem_take hx)
    have hc : cF h * (zs.take m).sum ≤ 2 * (zs.take m).sum := by cases h <;> simp [cF] <;> omega
    rw [stepTo]
    rcases Nat.lt_succ_iff_lt_or_eq.1 hm with hm | rfl
    · exact Int.le_trans (NN.step_at h b r x hz hs hk hl hp m hm) (h1.in_el h5 (by omega) s)
    · exact h1.in_at hp (by omega) hk (by rw [stepTo_len]; exact hl)
/-- The states on the way, from a cell on. -/
def wayB (T : Nat) : Nat → Nat → Nat → Bool
  | 0, i, s => decide (i = 64) && decide (s = 0)
  | f + 1, i, s => match nxtS (hasC T (i % 8) (i / 8)) (hasC T (i % 8 + 1) (i / 8)) (i % 8) s with
    | none => false
    | some s' => decide (s' < 256) && wayB T f (i + 1) s'
theorem way_pos (T : Nat) (hT : nCell T 64 ≤ 37) : ∀ (f i s : Nat), wayB T f i s = true → i + f = 64 → 0 < el (profTo T i) s → 0 < profZ T
  | 0, i, s, h, hf, hp => by
    rw [wayB, Bool.and_eq_true, decide_eq_true_eq, decide_eq_true_eq] at h
    obtain ⟨rfl, rfl⟩ := h
    exact hp
  | f + 1, i, s, h, hf, hp => by
    have hmono : ∀ d, nCell T i ≤ nCell T (i + d) := fun d => by
      induction d with
      | zero => exact Nat.le_refl _
      | succ d ih => rw [← Nat.add_assoc, nCell]; omega
    have hc : nCell T i ≤ 37 := by
      have := hmono (f + 1)
      rw [hf] at this; omega
    obtain ⟨h1, h2⟩ := NN.prof T i hc
    have hpw : (2 : Int) ^ nCell T i ≤ 2 ^ 37 := by
      have := Nat.pow_le_pow_right (n := 2) (by omega) hc
      exact_mod_cast this
    rw [wayB] at h
    split at h
    · simp at h
    · rename_i s' hs'
      rw [Bool.and_eq_true, decide_eq_true_eq] at h
      have hst := NN.step_at _ (hasC T (i % 8) (i / 8 + 1)) _ _ h1 (by omega) hs' h.1 hp 256 (by
        rcases Nat.lt_or_ge s 256 with g | g
        · exact g
        · rw [show el (profTo T i) s = 0 by unfold el; rw [List.getD_eq_getElem?_getD, List.getElem?_eq_none (by rw [profTo_len]; exact g)]; rfl] at hp
          omega)
      refine way_pos T hT f (i + 1) s' h.2 (by omega) ?_
      rw [profTo]
      omega
theorem way_some {T : Nat} (hT : (decide (nCell T 64 ≤ 37) && wayB T 64 0 0) = true) : profZ T ≠ 0 := by
  rw [Bool.and_eq_true, decide_eq_true_eq] at hT
  have := way_pos T hT.1 64 0 0 hT.2 rfl (by show 0 < el (zeros.set 0 1) 0; decide +kernel)
  omega
end Go.Proofs.Ytehnbalbpfmijaa

namespace Go.Proofs.Ytehnbalbpfmijaa
open Go.RowKit
set_option linter.unusedVariables false

/-- Whether a domino lies over a cell. -/
def ovr (d : Lk) (i : Nat) : Bool := aI d == i || bI d == i
/-- How many dominoes of a list lie over a cell. -/
def cc (ls : List Lk) (i : Nat) : Nat := ls.countP fun d => ovr d i
theorem cc_cons (d : Lk) (ls : List Lk) (i : Nat) : cc (d :: ls) i = cc ls i + (if ovr d i then 1 else 0) := List.countP_cons
theorem cc_app (l m : List Lk) (i : Nat) : cc (l ++ m) i = cc l i + cc m i := List.countP_append
theorem cc_perm {l m : List Lk} (h : l.Perm m) (i : Nat) : cc l i = cc m i := h.countP_eq _
theorem cc_pos {ls : List Lk} {d : Lk} {i : Nat} (h : d ∈ ls) (ho : ovr d i = true) : 0 < cc ls i := List.countP_pos_iff.2 ⟨d, h, ho⟩
theorem cc_get {ls : List Lk} {i : Nat} (h : 0 < cc ls i) : ∃ d, d ∈ ls ∧ ovr d i = true := List.countP_pos_iff.1 h
theorem ordL_eq (l : Lk) : ordL l = 2 * aI l + if l.2.2 then 1 else 0 := rfl
theorem ab_lt {l : Lk} (h : domL l = true) : aI l < bI l ∧ bI l < 64 := by
  obtain ⟨x, y, d⟩ := l
  have h1 := (domB_iff _ _ _).1 h
  unfold aI bI cix
  cases d <;> simp at h1 ⊢ <;> omega
/-- A tiling of the region with these cells. -/
structure Til (R : Nat) (ls : List Lk) : Prop where
  so : Sorted ls
  cv : ∀ i, i < 64 → cc ls i = if R.testBit i then 1 else 0
theorem covT_bit {ls : List Lk} {k : Nat} (hd : domL (dAt ls k) = true) (i : Nat) : (covTo ls (k + 1)).testBit i = ((covTo ls k).testBit i || ovr (dAt ls k) i) := by
  rw [covTo, if_pos hd, dM_ab, Nat.testBit_or, ab_bit]
  unfold ovr
  by_cases h1 : aI (dAt ls k) = i <;> by_cases h2 : bI (dAt ls k) = i <;> simp [h1, h2]
theorem take_get {ls : List Lk} {k : Nat} (h : k < ls.length) : ls.take (k + 1) = ls.take k ++ [dAt ls k] := by
  rw [dAt_get ls k h, List.take_succ_eq_append_getElem h]
theorem cc_one (d : Lk) (i : Nat) : cc [d] i = if ovr d i then 1 else 0 := by simp [cc]
theorem cc_step {ls : List Lk} {k i : Nat} (h : k < ls.length) : cc (ls.take (k + 1)) i = cc (ls.take k) i + if ovr (dAt ls k) i then 1 else 0 := by rw [take_get h, cc_app, cc_one]
theorem cc_take_le (ls : List Lk) (k i : Nat) : cc (ls.take k) i ≤ cc ls i := (List.take_sublist k ls).countP_le
theorem q_parts {R : Nat} {ls : List Lk} {k : Nat} : qAt R ls k = true ↔ domL (dAt ls k) = true ∧ (k = 0 ∨ domLt (dAt ls (k - 1)) (dAt ls k) = true) ∧ (R.testBit (aI (dAt ls k)) = true ∧ R.testBit (bI (dAt ls k)) = true) ∧ (covTo ls k).testBit (aI (dAt ls k)) = false ∧ (covTo ls k).testBit (bI (dAt ls k)) = false := by
  unfold qAt
  simp only [Bool.and_eq_true, Bool.or_eq_true, Bool.not_eq_true', decide_eq_true_eq]
  constructor
  · rintro ⟨⟨a, b⟩, ⟨⟨c, d⟩, e⟩, f⟩; exact ⟨a, b, ⟨c, d⟩, e, f⟩
  · rintro ⟨a, b, ⟨c, d⟩, e, f⟩; exact ⟨⟨a, b⟩, ⟨⟨c, d⟩, e⟩, f⟩
theorem ovr_no {d : Lk} {T : Nat} (h1 : T.testBit (aI d) = false) (h2 : T.testBit (bI d) = false) {i : Nat} (ho : ovr d i = true) : T.testBit i = false := by
  unfold ovr at ho
  simp only [Bool.or_eq_true, beq_iff_eq] at ho
  rcases ho with rfl | rfl
  · exact h1
  · exact h2
theorem part_cc {R : Nat} {ls : List Lk} (h : sPartB R ls = true) (i : Nat) : ∀ k, k ≤ ls.length → cc (ls.take k) i = if (covTo ls k).testBit i then 1 else 0
  | 0, _ => by simp [cc, covTo]
  | k + 1, hk => by
    have ih := part_cc h i k (by omega)
    obtain ⟨hd, _, _, c1, c2⟩ := q_parts.1 ((upFrom_iff _ _ _).1 h k (Nat.zero_le _) (by omega))
    rw [cc_step (by omega), ih, covT_bit hd]
    cases ho : ovr (dAt ls k) i
    · simp
    · rw [ovr_no c1 c2 ho]; simp
theorem part_sorted {R : Nat} {ls : List Lk} (h : sPartB R ls = true) : Sorted ls := by
  have hq : ∀ k, k < ls.length → _ := fun k hk => q_parts.1 ((upFrom_iff _ _ _).1 h k (Nat.zero_le _) hk)
  have hlt : ∀ j i, i < j → j < ls.length → ordL (dAt ls i) < ordL (dAt ls j) := by
    intro j
    induction j with
    | zero => intro i hi; omega
    | succ j ih =>
      intro i hi hj
      rcases (hq (j + 1) hj).2.1 with h0 | h0
      · omega
      · have h1 : ordL (dAt ls j) < ordL (dAt ls (j + 1)) := by
          unfold domLt at h0
          simp only [Bool.and_eq_true, decide_eq_true_eq] at h0
          exact h0.2
        rcases Nat.lt_succ_iff_lt_or_eq.1 hi with hi | rfl
        · exact Nat.lt_trans (ih i hi (by omega)) h1
        · exact h1
  refine ⟨List.pairwise_iff_getElem.2 fun i j hi hj hij => ?_, fun a ha => ?_⟩
  · have := hlt j i hij hj
    rw [dAt_get ls i hi, dAt_get ls j hj] at this
    exact this
  · obtain ⟨k, hk, rfl⟩ := List.mem_iff_getElem.1 ha
    have := (hq k hk).1
    rwa [dAt_get ls k hk] at this
theorem cnt_ext {A B : Nat} : ∀ n, (∀ i, i < n → A.testBit i = B.testBit i) → cntB A n = cntB B n
  | 0, _ => rfl
  | n + 1, h => by rw [cntB, cntB, cnt_ext n fun i hi => h i (by omega), h n (by omega)]
theorem til_of {R : Nat} {ls : List Lk} (h : Til R ls) : sTileB R ls = true := by
  have hcov : ∀ k, k ≤ ls.length → (∀ i, i < 64 → cc (ls.take k) i = if (covTo ls k).testBit i then 1 else 0) ∧ ∀ j, j < k → qAt R ls j = true := by
    intro k
    induction k with
    | zero => exact fun _ => ⟨fun i _ => by simp [cc, covTo], fun j hj => by omega⟩
    | succ k ih =>
      intro hk
      obtain ⟨i1, i2⟩ := ih (by omega)
      have hd : domL (dAt ls k) = true := h.so.ok (by omega)
      have hab := ab_lt hd
      have hcell : ∀ i, i < 64 → ovr (dAt ls k) i = true → R.testBit i = true ∧ (covTo ls k).testBit i = false := by
        intro i hi ho
        have h1 := cc_step (ls := ls) (k := k) (i := i) (by omega)
        have h2 := cc_take_le ls (k + 1) i
        have h3 := h.cv i hi
        have h4 := i1 i hi
        rw [ho, if_pos rfl] at h1
        cases hr : R.testBit i
        · rw [hr] at h3; simp at h3; omega
        · rw [hr] at h3
          refine ⟨rfl, ?_⟩
          cases hc : (covTo ls k).testBit i
          · rfl
          · rw [hc] at h4; simp at h3 h4; omega
      have ha := hcell (aI (dAt ls k)) (by omega) (by simp [ovr])
      have hb := hcell (bI (dAt ls k)) (by omega) (by simp [ovr])
      have hqk : qAt R ls k = true := by
        refine q_parts.2 ⟨hd, ?_, ⟨ha.1, hb.1⟩, ha.2, hb.2⟩
        by_cases h0 : k = 0
        · exact .inl h0
        · refine .inr ?_
          have h1 := h.so.at (i := k - 1) (j := k) (by omega) (by omega)
          have h2 : domL (dAt ls (k - 1)) = true := h.so.ok (by omega)
          unfold domLt
          simp only [Bool.and_eq_true, decide_eq_true_eq]
          exact ⟨⟨h2, hd⟩, h1⟩
      refine ⟨fun i hi => ?_, fun j hj => ?_⟩
      · rw [cc_step (by omega), i1 i hi, covT_bit hd]
        cases ho : ovr (dAt ls k) i
        · simp
        · rw [(hcell i hi ho).2]; simp
      · rcases Nat.lt_succ_iff_lt_or_eq.1 hj with hj | rfl
        · exact i2 j hj
        · exact hqk
  obtain ⟨h1, h2⟩ := hcov ls.length (Nat.le_refl _)
  have hp : sPartB R ls = true := (upFrom_iff _ _ _).2 fun k _ hk => h2 k hk
  have h3 := (cov_facts hp ls.length (Nat.le_refl _)).1
  have h4 : cntB (covTo ls ls.length) 64 = cntB R 64 := by
    refine cnt_ext 64 fun i hi => ?_
    have g1 := h1 i hi
    rw [List.take_length, h.cv i hi] at g1
    cases hr : R.testBit i <;> cases hc : (covTo ls ls.length).testBit i <;> rw [hr, hc] at g1 <;> simp at g1 ⊢
  unfold sTileB
  rw [hp, Bool.true_and, decide_eq_true_eq]
  omega
theorem til_to {R : Nat} (hR : R < 18446744073709551616) {ls : List Lk} (h : sTileB R ls = true) : Til R ls := by
  have h2 := h
  rw [← tile_eq hR] at h2
  unfold tileB at h2
  unfold sTileB at h
  simp only [Bool.and_eq_true, beq_iff_eq] at h h2
  refine ⟨part_sorted h.1, fun i _ => ?_⟩
  have h3 := part_cc h.1 i ls.length (Nat.le_refl _)
  rw [List.take_length, h2.2] at h3
  exact h3
theorem Sorted.nodup {ls : List Lk} (h : Sorted ls) : ls.Nodup := h.1.imp fun hab e => by subst e; omega
theorem Sorted.eq {l m : List Lk} (hl : Sorted l) (hm : Sorted m) (h : l.Perm m) : l = m :=
  h.eq_of_pairwise (fun a b _ _ h1 h2 => absurd h1 (by omega)) hl.1 hm.1

/-! ### Sorting -/
theorem insI_perm {d : Lk} {ys : List Lk} (h : d ∉ ys) : (insI d ys).Perm (d :: ys) := by
  unfold insI
  obtain ⟨h1, _, _⟩ := downK_spec ys (ordL d) ys.length
  generalize downK ys (ordL d) ys.length = k at *
  dsimp only
  split
  · rename_i hk
    simp only [Bool.and_eq_true, decide_eq_true_eq, beq_iff_eq] at hk
    refine absurd ?_ h
    rw [← hk.2, dAt_get ys (k - 1) (by omega)]
    exact List.getElem_mem _
  · refine List.perm_middle.trans ?_
    rw [List.take_append_drop]
theorem sortI_perm {ls : List Lk} (hn : ls.Nodup) (hd : ∀ d ∈ ls, domL d = true) : ∀ k, k ≤ ls.length → (sortI ls k).Perm (ls.take k)
  | 0, _ => by simp [sortI]
  | k + 1, hk => by
    have ih := sortI_perm hn hd k (by omega)
    have hg := dAt_get ls k (by omega)
    have h1 : domL (dAt ls k) = true := by rw [hg]; exact hd _ (List.getElem_mem _)
    have h2 : dAt ls k ∉ sortI ls k := by
      intro hm
      have hm2 := ih.mem_iff.1 hm
      rw [hg] at hm2
      obtain ⟨j, hj, he⟩ := List.mem_iff_getElem.1 hm2
      rw [List.getElem_take] at he
      rw [List.length_take] at hj
      exact (List.pairwise_iff_getElem.1 hn) j k (by omega) (by omega) (by omega) he
    rw [sortI, if_pos h1, take_get (by omega)]
    refine (insI_perm h2).trans ((ih.cons _).trans ?_)
    exact (List.perm_append_singleton _ _).symm
theorem sort_til {R : Nat} {ls : List Lk} (hn : ls.Nodup) (hd : ∀ d ∈ ls, domL d = true) (hc : ∀ i, i < 64 → cc ls i = if R.testBit i then 1 else 0) : Til R (sortI ls ls.length) := by
  have hp := sortI_perm hn hd ls.length (Nat.le_refl _)
  rw [List.take_length] at hp
  exact ⟨(sort_same ls ls.length).2, fun i hi => by rw [cc_perm hp]; exact hc i hi⟩
theorem nodup_of_cc {R : Nat} {ls : List Lk} (hd : ∀ d ∈ ls, domL d = true) (hc : ∀ i, i < 64 → cc ls i = if R.testBit i then 1 else 0) : ls.Nodup := by
  have key : ∀ l : List Lk, (∀ d ∈ l, domL d = true) → (∀ i, i < 64 → cc l i ≤ 1) → l.Nodup := by
    intro l
    induction l with
    | nil => intro _ _; exact List.nodup_nil
    | cons d l ih =>
      intro h1 h2
      have hdd := h1 d (by simp)
      refine List.nodup_cons.2 ⟨fun hm => ?_, ih (fun x hx => h1 x (by simp [hx])) fun i hi => by have := h2 i hi; rw [cc_cons] at this; omega⟩
      have h3 := h2 (aI d) (by have := ab_lt hdd; omega)
      have h4 : ovr d (aI d) = true := by simp [ovr]
      have h5 := cc_pos hm h4
      rw [cc_cons, if_pos h4] at h3
      omega
  exact key ls hd fun i hi => by rw [hc i hi]; split <;> omega

/-! ### Flips -/
/-- The other domino over the four cells at a cell. -/
def prt (l : Lk) : Lk := if l.2.2 then (l.1 + 1, l.2.1, true) else (l.1, l.2.1 + 1, false)
def quadL (x y : Int) (d : Bool) : Lk × Lk := ((x, y, d), prt (x, y, d))
theorem quad_dom {x y : Int} (hx : 0 ≤ x ∧ x ≤ 6) (hy : 0 ≤ y ∧ y ≤ 6) (d : Bool) : domL (quadL x y d).1 = true ∧ domL (quadL x y d).2 = true := by
  unfold domL
  rw [domB_iff, domB_iff]
  cases d <;> simp [quadL, prt] <;> omega
theorem quad_cc {x y : Int} (hx : 0 ≤ x ∧ x ≤ 6) (hy : 0 ≤ y ∧ y ≤ 6) (d : Bool) (i : Nat) : (if ovr (quadL x y d).1 i then 1 else 0) + (if ovr (quadL x y d).2 i then 1 else 0) = (if ovr (quadL x y (!d)).1 i then 1 else 0) + (if ovr (quadL x y (!d)).2 i then 1 else 0) := by
  obtain ⟨n, rfl⟩ := Int.eq_ofNat_of_zero_le hx.1
  obtain ⟨m, rfl⟩ := Int.eq_ofNat_of_zero_le hy.1
  have e1 : ((n : Int) + 1).toNat = n + 1 := by omega
  have e2 : ((m : Int) + 1).toNat = m + 1 := by omega
  unfold ovr quadL prt aI bI cix
  cases d <;> simp [e1, e2] <;> (repeat' split) <;> omega
/-- The dominoes at a cell are turned. -/
def flipL (ls : List Lk) (x y : Int) (d : Bool) : List Lk := (quadL x y (!d)).1 :: (quadL x y (!d)).2 :: ls.filter fun l => l != (quadL x y d).1 && l != (quadL x y d).2
theorem perm_two {ls : List Lk} (hn : ls.Nodup) {a b : Lk} (ha : a ∈ ls) (hb : b ∈ ls) (hab : a ≠ b) : ls.Perm (a :: b :: ls.filter fun l => l != a && l != b) := by
  have h1 := List.perm_cons_erase ha
  have hb' : b ∈ ls.erase a := (List.mem_erase_of_ne (Ne.symm hab)).2 hb
  have h2 := List.perm_cons_erase hb'
  refine h1.trans ((h2.cons a).trans ?_)
  rw [(hn.erase a).erase_eq_filter, hn.erase_eq_filter, List.filter_filter]
  have : (fun l : Lk => l != b && l != a) = fun l => l != a && l != b := by funext l; exact Bool.and_comm _ _
  rw [this]
theorem flip_til {R : Nat} {ls : List Lk} (h : Til R ls) {x y : Int} (hx : 0 ≤ x ∧ x ≤ 6) (hy : 0 ≤ y ∧ y ≤ 6) {d : Bool} (h1 : (quadL x y d).1 ∈ ls) (h2 : (quadL x y d).2 ∈ ls) : Til R (sortI (flipL ls x y d) (flipL ls x y d).length) := by
  have hne : (quadL x y d).1 ≠ (quadL x y d).2 := by cases d <;> simp [quadL, prt] <;> omega
  have hp := perm_two h.so.nodup h1 h2 hne
  have hdom : ∀ l ∈ flipL ls x y d, domL l = true := by
    intro l hl
    unfold flipL at hl
    rcases List.mem_cons.1 hl with rfl | hl
    · exact (quad_dom hx hy (!d)).1
    rcases List.mem_cons.1 hl with rfl | hl
    · exact (quad_dom hx hy (!d)).2
    · exact h.so.2 _ (List.mem_filter.1 hl).1
  have hcc : ∀ i, i < 64 → cc (flipL ls x y d) i = if R.testBit i then 1 else 0 := by
    intro i hi
    have g1 := h.cv i hi
    rw [cc_perm hp, cc_cons, cc_cons] at g1
    have g2 := quad_cc hx hy d i
    unfold flipL
    rw [cc_cons, cc_cons]
    omega
  exact sort_til (nodup_of_cc hdom hcc) hdom hcc

/-! ### Every tiling of a small region has a flip -/
def anyF (hd : List Lk) : Bool := hd.any fun l => hd.contains (prt l)
theorem anyF_get {hd : List Lk} (h : anyF hd = true) : ∃ l, l ∈ hd ∧ prt l ∈ hd := by
  unfold anyF at h
  obtain ⟨l, h1, h2⟩ := List.any_eq_true.1 h
  exact ⟨l, h1, by simpa using h2⟩
/-- The first cell of a set. -/
def loB (s : Nat) : Nat → Nat → Nat
  | 0, i => i
  | f + 1, i => if s.testBit i then i else loB s f (i + 1)
theorem loB_spec (s : Nat) : ∀ f i, (∀ j, i ≤ j → j < loB s f i → s.testBit j = false) ∧ (loB s f i < i + f → s.testBit (loB s f i) = true) ∧ i ≤ loB s f i ∧ loB s f i ≤ i + f
  | 0, i => ⟨fun j h1 h2 => by simp [loB] at h2; omega, fun h => by simp [loB] at h, Nat.le_refl _, Nat.le_refl _⟩
  | f + 1, i => by
    rw [loB]
    cases h : s.testBit i
    · obtain ⟨h1, h2, h3, h4⟩ := loB_spec s f (i + 1)
      simp only [Bool.false_eq_true, if_false]
      refine ⟨fun j g1 g2 => ?_, fun g => h2 (by omega), by omega, by omega⟩
      rcases Nat.eq_or_lt_of_le g1 with rfl | g1
      · exact h
      · exact h1 j g1 g2
    · simp only [if_true]
      exact ⟨fun j g1 g2 => by omega, fun _ => h, Nat.le_refl _, by omega⟩
def dK (k : Nat) (dn : Bool) : Lk := (((k % 8 : Nat) : Int), ((k / 8 : Nat) : Int), dn)
theorem dK_of {t : Lk} (h : domL t = true) : t = dK (aI t) t.2.2 := by
  obtain ⟨x, y, d⟩ := t
  have h1 := (domB_iff x y d).1 h
  have h2 : x ≤ 7 := by have := h1.2; cases d <;> simp at this <;> omega
  have hx := h1.1.1
  have hy := h1.1.2
  have e1 : x = (((y.toNat * 8 + x.toNat) % 8 : Nat) : Int) := by omega
  have e2 : y = (((y.toNat * 8 + x.toNat) / 8 : Nat) : Int) := by omega
  exact Prod.ext e1 (Prod.ext e2 rfl)
def chkF : Nat → Nat → List Lk → Bool
  | 0, _, hd => anyF hd
  | f + 1, s, hd => anyF hd || (decide (loB s 64 0 < 64) && [false, true].all fun dn =>
      let t := dK (loB s 64 0) dn
      !(domL t && s.testBit (bI t)) || chkF f (s ^^^ dM t) (hd ++ [t]))
theorem chkF_all : ∀ (f s : Nat) (hd : List Lk), chkF f s hd = true → ∀ tl, Sorted tl → (∀ i, i < 64 → cc tl i = if s.testBit i then 1 else 0) → ∃ l, l ∈ hd ++ tl ∧ prt l ∈ hd ++ tl
  | 0, s, hd, h, tl, _, _ => by
    obtain ⟨l, h1, h2⟩ := anyF_get h
    exact ⟨l, by simp [h1], by simp [h2]⟩
  | f + 1, s, hd, h, tl, hs, hc => by
    rw [chkF, Bool.or_eq_true] at h
    rcases h with h | h
    · obtain ⟨l, h1, h2⟩ := anyF_get h
      exact ⟨l, by simp [h1], by simp [h2]⟩
    · rw [Bool.and_eq_true, decide_eq_true_eq] at h
      obtain ⟨hk, hall⟩ := h
      obtain ⟨p1, p2, _, _⟩ := loB_spec s 64 0
      have hbit := p2 (by omega)
      generalize loB s 64 0 = k at *
      have hck := hc k hk
      rw [hbit, if_pos rfl] at hck
      cases tl with
      | nil => simp [cc] at hck
      | cons t tl =>
        have htd : domL t = true := hs.2 t (by simp)
        have htl := ab_lt htd
        have hin : ∀ m ∈ t :: tl, ∀ i, i < 64 → ovr m i = true → s.testBit i = true := by
          intro m hm i hi ho
          have g1 := cc_pos hm ho
          rw [hc i hi] at g1
          cases hb : s.testBit i
          · rw [hb] at g1; simp at g1
          · rfl
        have hta : k ≤ aI t := by
          have g := hin t (by simp) (aI t) (by omega) (by simp [ovr])
          rcases Nat.lt_or_ge (aI t) k with g2 | g2
          · rw [p1 _ (Nat.zero_le _) g2] at g; simp at g
          · exact g2
        have htk : aI t = k := by
          obtain ⟨m, hm, ho⟩ := cc_get (ls := t :: tl) (i := k) (by omega)
          have hmd := hs.2 m hm
          have hml := ab_lt hmd
          have hma : k ≤ aI m := by
            have g := hin m hm (aI m) (by omega) (by simp [ovr])
            rcases Nat.lt_or_ge (aI m) k with g2 | g2
            · rw [p1 _ (Nat.zero_le _) g2] at g; simp at g
            · exact g2
          have hmk : aI m = k := by
            unfold ovr at ho
            simp only [Bool.or_eq_true, beq_iff_eq] at ho
            rcases ho with ho | ho
            · exact ho
            · omega
          rcases List.mem_cons.1 hm with rfl | hm
          · exact hmk
          · have h1 := (List.pairwise_cons.1 hs.1).1 m hm
            rw [ordL_eq, ordL_eq] at h1
            split at h1 <;> split at h1 <;> omega
        have hte := dK_of htd
        rw [htk] at hte
        have hbt : s.testBit (bI t) = true := hin t (by simp) (bI t) (by omega) (by simp [ovr])
        have hch : chkF f (s ^^^ dM t) (hd ++ [t]) = true := by
          have g := List.all_eq_true.1 hall t.2.2 (by cases t.2.2 <;> simp)
          simp only [← hte, htd, hbt, Bool.and_self, Bool.not_true, Bool.false_or] at g
          exact g
        obtain ⟨l, q1, q2⟩ := chkF_all f _ _ hch tl ⟨(List.pairwise_cons.1 hs.1).2, fun a ha => hs.2 a (by simp [ha])⟩ (fun i hi => by
          have g1 := hc i hi
          rw [cc_cons] at g1
          rw [Nat.testBit_xor, dM_ab, ab_bit]
          have g2 : (decide (aI t = i) || decide (bI t = i)) = ovr t i := by
            unfold ovr
            by_cases e1 : aI t = i <;> by_cases e2 : bI t = i <;> simp [e1, e2]
          rw [g2]
          cases ho : ovr t i
          · rw [ho] at g1; simp at g1 ⊢; exact g1
          · have g3 := hin t (by simp) i hi ho
            rw [ho, g3] at g1
            rw [g3]; simp at g1 ⊢; omega)
        exact ⟨l, by simpa using q1, by simpa using q2⟩
theorem flip_some {R : Nat} {ls : List Lk} (hk : chkF 40 R [] = true) (h : Til R ls) : ∃ l, l ∈ ls ∧ prt l ∈ ls := by
  obtain ⟨l, h1, h2⟩ := chkF_all 40 R [] hk ls h.so h.cv
  exact ⟨l, by simpa using h1, by simpa using h2⟩
theorem prt_quad {l : Lk} (h : domL l = true) (hp : domL (prt l) = true) : (0 ≤ l.1 ∧ l.1 ≤ 6) ∧ (0 ≤ l.2.1 ∧ l.2.1 ≤ 6) ∧ (quadL l.1 l.2.1 l.2.2).1 = l ∧ (quadL l.1 l.2.1 l.2.2).2 = prt l := by
  obtain ⟨x, y, d⟩ := l
  have h1 := (domB_iff _ _ _).1 h
  cases d
  · have h2 := (domB_iff _ _ _).1 (show domB x (y + 1) false = true from hp)
    simp at h1 h2
    exact ⟨by simp; omega, by simp; omega, rfl, rfl⟩
  · have h2 := (domB_iff _ _ _).1 (show domB (x + 1) y true = true from hp)
    simp at h1 h2
    exact ⟨by simp; omega, by simp; omega, rfl, rfl⟩
end Go.Proofs.Ytehnbalbpfmijaa
