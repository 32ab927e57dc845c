/- Families of paths as the reference counts them: a step of l20Walk; CountFamilies. -/
import Derived.Test.YtamnpiihkbjgnaaLFam
import Derived.IntWalk
namespace Go.Proofs.Ytamnpiihkbjgnaa
open Go.RowKit
set_option linter.unusedVariables false

abbrev LS2 (W w' : World) (b : Nat) (x y : Int) : Prop := w'.cell? ⟨b, 0, none⟩ = some (.int .i64 x) ∧ w'.cell? ⟨b, 1, none⟩ = some (.int .i64 y) ∧ W.heap.size ≤ w'.heap.size ∧ Below W.heap.size W w'
theorem LS2.keep {W W0 w1 : World} {b : Nat} {x y : Int} (hb : Below W0.heap.size W0 w1) (hl : b < W.heap.size) (h : LS2 W W0 b x y) : LS2 W w1 b x y := by
  obtain ⟨h1, h2, h3, h4⟩ := h
  exact ⟨(hb.cell (by simp; omega)).trans h1, (hb.cell (by simp; omega)).trans h2, Nat.le_trans h3 hb.size, h4.trans (hb.mono h3)⟩
theorem LS2.drew {W W0 : World} {b : Nat} {x y : Int} (h : LS2 W W0 b x y) : LS2 W W0.drew b x y := ⟨h.1, h.2.1, h.2.2.1, h.2.2.2.drew⟩

set_option maxRecDepth 100000 in
set_option maxHeartbeats 4000000 in
theorem lwalk_step (ps qs : List (Int × Int)) (rest : Nat → Int) (i d x y T ex ey : Nat) (hi : i < qs.length) (hlen : ps.length = qs.length) (hl : qs.length ≤ 3) (hex : px qs i = (ex : Int)) (hey : py qs i = (ey : Int)) (hex5 : ex ≤ 5) (hey5 : ey ≤ 5)
    (hx : x ≤ 6) (hy : y ≤ 6) (c1 : ¬ ex < x) (c2 : ¬ ey < y) (hnee : ¬ (x = ex ∧ y = ey)) (hb : hasB T x y = false)
    (H1 : LWalk ps qs rest i d (x + 1) y (T ||| 2 ^ cix x y)) (H2 : LWalk ps qs rest i d x (y + 1) (T ||| 2 ^ cix x y)) : LWalk ps qs rest i (d + 1) x y T := by
  intro vS vE B g w hS hE hBg hU
  have hz : walkZ (px qs i).toNat (py qs i).toNat rest (d + 1) x y T = walkZ (px qs i).toNat (py qs i).toNat rest d (x + 1) y (T ||| 2 ^ cix x y) + walkZ (px qs i).toNat (py qs i).toNat rest d x (y + 1) (T ||| 2 ^ cix x y) := by
    rw [hex, hey, Int.toNat_natCast, Int.toNat_natCast]
    exact walkZ_s c1 c2 hb hnee
  rw [hz]
  clear hz
  have hg := lt_of_block hU
  have HS := Lib.hid hS
  have HE := Lib.hid hE
  obtain ⟨A0', c', rfl, g1', g2', hq'⟩ := hS
  obtain ⟨A0, c, rfl, g1, g2, hq⟩ := hE
  obtain ⟨A, rfl, hAb, hA0, hA1⟩ := hq i hi
  rw [hex] at hA0
  rw [hey] at hA1
  unfold maxLen at g2 g2'
  have hi0 : (0 : Int) ≤ (i : Int) := by omega
  have hi1 : (i : Int) < (qs.length : Int) := by omega
  have b1 : decide (ex < x) = false := by simp; omega
  have b2 : decide (ey < y) = false := by simp; omega
  have k0 : (0 : Int) ≤ (y : Int) * 6 + (x : Int) := by omega
  have k1 : (y : Int) * 6 + (x : Int) < 49 := by omega
  have HX := Lib.hid hex; have HY := Lib.hid hey; have HLL := Lib.hid hlen; have HHB := Lib.hid hb
  clear hq hex hey hlen hb
  have hS0 := LS.start (B := 0) (b := 0) (g := g) (k := y * 6 + x) (x := x) (y := y) (t := false) (show (A.add (i * 2)).block < w.heap.size by rw [addBlock]; omega) hg hA0 hA1 (by rw [blk_cell hU, usedArr_get T x y (by omega) (by omega), HHB.out]) rfl
  have hf : (w.alloc (.cells #[.int .i64 x, .int .i64 y] 69)).frozen? ⟨g, y * 6 + x, none⟩ = false := by
    rw [((Below.refl _ _).alloc (Nat.le_refl _) _ : Below w.heap.size w _).frozen (by simpa using hg)]; exact blk_free hU
  have HB0 : Hid (Below w.heap.size w (w.alloc (.cells #[.int .i64 x, .int .i64 y] 69))) := (Below.refl _ _).alloc (Nat.le_refl _) _
  have HZ0 : Hid (w.heap.size < (w.alloc (.cells #[.int .i64 x, .int .i64 y] 69)).heap.size) := by unfold Hid; simp
  have HU := Lib.hid hU
  clear hU hA0 hA1
  obtain ⟨f1, f2, f3, f4, f5⟩ := hS0
  have hA2 : (A.add (i * 2)).block < w.heap.size := by rw [addBlock]; omega
  have hne : (A.add (i * 2)).block ≠ g := by rw [addBlock]; omega
  go_enter Try.func63, Try.ntmps63
  go_wp2_with fail
  generalize w.alloc (.cells #[.int .i64 x, .int .i64 y] 69) = W0 at *
  go_quiet (fail)
  have f1 : (W0.drewN nq).cell? ⟨w.heap.size, 0, none⟩ = some (.int .i64 (x : Int)) := f1
  have f2 : (W0.drewN nq).cell? ⟨w.heap.size, 1, none⟩ = some (.int .i64 (y : Int)) := f2
  have f3 : (W0.drewN nq).cell? (A.add (i * 2)) = some (.int .i64 (ex : Int)) := f3
  have f4 : (W0.drewN nq).cell? ⟨(A.add (i * 2)).block, (A.add (i * 2)).off + 1, none⟩ = some (.int .i64 (ey : Int)) := f4
  have f5 : (W0.drewN nq).cell? ⟨g, y * 6 + x, none⟩ = some (.bool false) := f5
  have hf : (W0.drewN nq).frozen? ⟨g, y * 6 + x, none⟩ = false := hf
  have hB1 : Below w.heap.size w (W0.drewN nq) := HB0.out.trans (Drawn.below ⟨nq, rfl⟩ _)
  have HZ1 : Hid (w.heap.size < (W0.drewN nq).heap.size) := HZ0.out
  generalize W0.drewN nq = W1 at *
  have HU1 := Lib.hid (HU.out.keep hB1)
  have HB1 := Lib.hid hB1
  clear hB1
  go_wp2_with fail
  have hN1 : (W1.setCell ⟨g, y * 6 + x, none⟩ (.bool true)).heap[g]? = some (.cells (usedArr (T ||| 2 ^ cix x y)) 4 (0, 0)) := by
    rw [blk_setCell HU1.out, used_set T x y (by omega) (by omega)]
  have hG1 := grownBy_set W1 g (y * 6 + x) (.bool true)
  have hGW := Lib.hid ((⟨HB1.out.os, HB1.out.tape, HB1.out.output, HB1.out.size, fun k hk _ => HB1.out.block k hk⟩ : w.grownBy W1 (some g)).trans hG1)
  have e1 : (W1.setCell ⟨g, y * 6 + x, none⟩ (.bool true)).cell? ⟨w.heap.size, 0, none⟩ = some (.int .i64 (x : Int)) := (World.cell?_of_block (hG1.block _ HZ1.out (by simp; omega))).trans f1
  have e2 : (W1.setCell ⟨g, y * 6 + x, none⟩ (.bool true)).cell? ⟨w.heap.size, 1, none⟩ = some (.int .i64 (y : Int)) := (World.cell?_of_block (hG1.block _ HZ1.out (by simp; omega))).trans f2
  have e3 : (W1.setCell ⟨g, y * 6 + x, none⟩ (.bool true)).cell? (A.add (i * 2)) = some (.int .i64 (ex : Int)) := (World.cell?_of_block (hG1.block _ (Nat.lt_trans hA2 HZ1.out) (by simpa using hne))).trans f3
  have e4 : (W1.setCell ⟨g, y * 6 + x, none⟩ (.bool true)).cell? ⟨(A.add (i * 2)).block, (A.add (i * 2)).off + 1, none⟩ = some (.int .i64 (ey : Int)) := (World.cell?_of_block (a := ⟨(A.add (i * 2)).block, (A.add (i * 2)).off + 1, none⟩) (hG1.block _ (Nat.lt_trans hA2 HZ1.out) (by simpa using hne))).trans f4
  have hGs := hG1.size
  generalize W1.setCell ⟨g, y * 6 + x, none⟩ (.bool true) = W2 at *
  clear f1 f2 f3 f4 f5 hf hG1
  have hsq : ∀ W : World, Sem.run Try.prog (binOp .eql 69 (.agg #[.int .i64 x, .int .i64 y]) (.agg #[.int .i64 ex, .int .i64 ey])) W = .ok (.bool false) W := fun W => by
    by_cases h1 : (x : Int) = (ex : Int)
    · have h2 : ¬ (y : Int) = (ey : Int) := fun h => hnee ⟨by omega, by omega⟩
      go_simp
    · go_simp
  go_quiet (fail)
  clear hsq
  have HU3 : Hid (Used (W2.drewN nq) g (T ||| 2 ^ cix x y)) := hN1
  have HGX : Hid (w.grownBy (W2.drewN nq) (some g)) := hGW.out.trans (grownBy_drewN _ _ _)
  have q1 : (W2.drewN nq).cell? ⟨w.heap.size, 0, none⟩ = some (.int .i64 (x : Int)) := e1
  have q2 : (W2.drewN nq).cell? ⟨w.heap.size, 1, none⟩ = some (.int .i64 (y : Int)) := e2
  have HZ3 : Hid (w.heap.size < (W2.drewN nq).heap.size) := by unfold Hid; exact Nat.lt_of_lt_of_le HZ1.out (by show W1.heap.size ≤ W2.heap.size; exact hGs)
  generalize W2.drewN nq = W3 at *
  clear e1 e2 e3 e4 hN1 hGW
  go_wp2_with fail
  have hRS := HS.out.keep fun k hk => HGX.out.block k (by omega) (by simp; omega)
  have hRE := HE.out.keep fun k hk => HGX.out.block k (by omega) (by simp; omega)
  have hW3 : g < W3.heap.size := lt_of_block HU3.out
  have H1' : ∀ W, Below W3.heap.size W3 W → Calls Try.prog 63 #[.slice A0' ps.length c', .slice (some A) qs.length c, .int .i64 (i : Int), .agg #[.int .i64 ((x : Int) + 1), .int .i64 (y : Int)], .slice (some ⟨g, 0, none⟩) 49 49] W
      (LPost W (walkZ (px qs i).toNat (py qs i).toNat rest d (x + 1) y (T ||| 2 ^ cix x y))) := fun W hb => by
    have := H1 _ _ B g W (hRS.below (hb.mono (by omega))) (hRE.below (hb.mono (by omega))) hBg (HU3.out.keep hb)
    rw [show ((x + 1 : Nat) : Int) = (x : Int) + 1 by omega] at this
    exact this
  have H2' : ∀ W, Below W3.heap.size W3 W → Calls Try.prog 63 #[.slice A0' ps.length c', .slice (some A) qs.length c, .int .i64 (i : Int), .agg #[.int .i64 (x : Int), .int .i64 ((y : Int) + 1)], .slice (some ⟨g, 0, none⟩) 49 49] W
      (LPost W (walkZ (px qs i).toNat (py qs i).toNat rest d x (y + 1) (T ||| 2 ^ cix x y))) := fun W hb => by
    have := H2 _ _ B g W (hRS.below (hb.mono (by omega))) (hRE.below (hb.mono (by omega))) hBg (HU3.out.keep hb)
    rw [show ((y + 1 : Nat) : Int) = (y : Int) + 1 by omega] at this
    exact this
  generalize walkZ (px qs i).toNat (py qs i).toNat rest d (x + 1) y (T ||| 2 ^ cix x y) = n1 at *
  generalize walkZ (px qs i).toNat (py qs i).toNat rest d x (y + 1) (T ||| 2 ^ cix x y) = n2 at *
  have HL : Hid (LS2 W3 W3 w.heap.size x y) := ⟨q1, q2, Nat.le_refl _, Below.refl _ _⟩
  have w1' : IntKind.i64.wrap ((x : Int) + 1) = (x : Int) + 1 := IntWalk.i64_in _ (by omega)
  have w2' : IntKind.i64.wrap ((y : Int) + 1) = (y : Int) + 1 := IntWalk.i64_in _ (by omega)
  have HK1 := Lib.hid H1'
  have HK2 := Lib.hid H2'
  clear hRS hRE H1' H2' H1 H2 q1 q2 hq' k0 k1
  go_region_held3 (fun w' => LS2 W3 w' w.heap.size x y)
      (first
        | exact HL.out.drew
        | exact LS2.keep hb4 HZ3.out (by assumption))
      (first
        | (go_at_call 63; (with_reducible refine (HK1.out _ (show LS2 W3 _ w.heap.size x y from by assumption).2.2.2).mono ?_); rintro e w4 ⟨rfl, hb4⟩)
        | (go_at_call 63; (with_reducible refine (HK2.out _ (show LS2 W3 _ w.heap.size x y from by assumption).2.2.2).mono ?_); rintro e w4 ⟨rfl, hb4⟩))
  clear w1' w2'
  have hB4 := (show LS2 W3 w4 w.heap.size x y from by assumption).2.2.2
  have HU4 := Lib.hid (HU3.out.keep hB4)
  have HG4 := Lib.hid (grownBy_below HGX.out hB4)
  have f5 : w4.cell? ⟨g, y * 6 + x, none⟩ = some (.bool true) := by
    rw [blk_cell HU4.out, usedArr_get _ x y (by omega) (by omega)]; simp [hasB, Nat.testBit_or]
  have hf : w4.frozen? ⟨g, y * 6 + x, none⟩ = false := blk_free HU4.out
  have k0 : (0 : Int) ≤ (y : Int) * 6 + (x : Int) := by omega
  have k1 : (y : Int) * 6 + (x : Int) < 49 := by omega
  clear hB4
  go_wp2_with fail
  go_ret
  exact ⟨ret_int (by first | (rw [IntWalk.i64_left]; unfold wrap64; omega) | (unfold wrap64; omega)), restored (HG4.out.trans (grownBy_set _ _ _ _)) HU.out (by unfold Used; rw [blk_setCell HU4.out, used_reset T x y (by omega) (by omega) HHB.out])⟩

theorem few_get {ps : List (Int × Int)} (h : Few ps) {i : Nat} (hi : i < ps.length) : ∃ x y : Nat, px ps i = (x : Int) ∧ py ps i = (y : Int) ∧ x ≤ 5 ∧ y ≤ 5 := by
  obtain ⟨⟨a1, a2⟩, a3, a4⟩ := h _ (List.getElem_mem hi)
  have e1 : px ps i = ps[i].1 := by simp [px, hi]
  have e2 : py ps i = ps[i].2 := by simp [py, hi]
  exact ⟨ps[i].1.toNat, ps[i].2.toNat, by omega, by omega, by omega, by omega⟩
theorem fam_drop {ps qs : List (Int × Int)} {i : Nat} (h1 : i < ps.length) (h2 : i < qs.length) (T : Nat) : famZ (ps.drop i) (qs.drop i) T = walkZ (px qs i).toNat (py qs i).toNat (famZ (ps.drop (i + 1)) (qs.drop (i + 1))) 20 (px ps i).toNat (py ps i).toNat T := by
  rw [List.drop_eq_getElem_cons h1, List.drop_eq_getElem_cons h2, famZ]
  simp [px, py, h1, h2]

theorem lwalk_in (ps qs : List (Int × Int)) (i : Nat) (hlen : ps.length = qs.length) (hl : qs.length ≤ 3) (hq : Few qs) (hp : Few ps) (hi : i < qs.length)
    (IH : i + 1 < ps.length → ∀ (x y T : Nat), px ps (i + 1) = (x : Int) → py ps (i + 1) = (y : Int) → T < 18446744073709551616 → LWalk ps qs (famZ (ps.drop (i + 1 + 1)) (qs.drop (i + 1 + 1))) (i + 1) 20 x y T) :
    ∀ (d x y T : Nat), x ≤ 6 → y ≤ 6 → T < 18446744073709551616 → px qs i - x + (py qs i - y) < d → 0 < d → LWalk ps qs (famZ (ps.drop (i + 1)) (qs.drop (i + 1))) i d x y T
  | 0, _, _, _, _, _, _, _, h0 => absurd h0 (by omega)
  | d + 1, x, y, T, hx, hy, hT, hd, _ => by
    obtain ⟨ex, ey, e1, e2, e3, e4⟩ := few_get hq hi
    by_cases c1 : ex < x
    · exact lwalk_no ps qs _ i d x y T ex ey hi hl e1 e2 e3 e4 hx hy (.inl c1)
    · by_cases c2 : ey < y
      · exact lwalk_no ps qs _ i d x y T ex ey hi hl e1 e2 e3 e4 hx hy (.inr (.inl c2))
      · cases hb : hasB T x y
        · have hT2 := with_lt hT (show cix x y ≤ 63 by unfold cix; omega)
          by_cases hne : x = ex ∧ y = ey
          · obtain ⟨rfl, rfl⟩ := hne
            refine lwalk_end ps qs _ i d T x y hi hlen hl e1 e2 e3 e4 hb (fun hn => ?_) (fun hn => ?_)
            · rw [List.drop_of_length_le (show ps.length ≤ i + 1 by omega)]; simp [famZ]
            · obtain ⟨sx, sy, s1, s2, _⟩ := few_get hp hn
              refine ⟨sx, sy, s1, s2, fun vS vE B g w hS hE hB hU => ?_⟩
              have h := IH hn sx sy _ s1 s2 hT2 vS vE B g w hS hE hB hU
              rw [fam_drop hn (by omega), s1, s2, Int.toNat_natCast, Int.toNat_natCast]
              exact h
          · exact lwalk_step ps qs _ i d x y T ex ey hi hlen hl e1 e2 e3 e4 hx hy c1 c2 hne hb
              (lwalk_in ps qs i hlen hl hq hp hi IH d (x + 1) y _ (by omega) hy hT2 (by omega) (by omega))
              (lwalk_in ps qs i hlen hl hq hp hi IH d x (y + 1) _ hx (by omega) hT2 (by omega) (by omega))
        · exact lwalk_no ps qs _ i d x y T ex ey hi hl e1 e2 e3 e4 hx hy (.inr (.inr hb))
theorem lwalk_any (ps qs : List (Int × Int)) (hlen : ps.length = qs.length) (hl : qs.length ≤ 3) (hq : Few qs) (hp : Few ps) : ∀ (m i : Nat), qs.length = i + m → i < qs.length → ∀ (x y T : Nat), px ps i = (x : Int) → py ps i = (y : Int) → T < 18446744073709551616 →
    LWalk ps qs (famZ (ps.drop (i + 1)) (qs.drop (i + 1))) i 20 x y T
  | 0, i, hm, hi => absurd hm (by omega)
  | m + 1, i, hm, hi => fun x y T hx hy hT => by
    obtain ⟨sx, sy, s1, s2, s3, s4⟩ := few_get hp (show i < ps.length by omega)
    obtain ⟨ex, ey, e1, e2, e3, e4⟩ := few_get hq hi
    exact lwalk_in ps qs i hlen hl hq hp hi (fun hn => lwalk_any ps qs hlen hl hq hp m (i + 1) (by omega) (by omega)) 20 x y T (by omega) (by omega) hT (by omega) (by omega)
end Go.Proofs.Ytamnpiihkbjgnaa
