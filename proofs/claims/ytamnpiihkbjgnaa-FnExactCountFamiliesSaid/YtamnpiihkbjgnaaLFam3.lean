/- The contract of the reference's CountFamilies. -/
import Derived.Test.YtamnpiihkbjgnaaLFam2
import Derived.Deep.OwnRows
namespace Go.Proofs.Ytamnpiihkbjgnaa
open Go.RowKit
set_option linter.unusedVariables false

theorem infoBool : (Try.prog.info? 4).map (fun i => (i.zero, i.size, i.bytes)) = some (some (.bool false), 1, 1) := by kernel_rfl
theorem used_zero : usedArr 0 = madeCells #[.bool false] 49 := by
  apply Array.ext
  · simp [usedArr, madeCells]
  · intro k h1 h2
    simp [usedArr, madeCells, Nat.mod_one]
theorem cf_no {ps qs : List (Int × Int)} {k : Nat} (hl : ps.length = qs.length) (hk : k < ps.length) (h : (spotB 5 (px ps k) (py ps k) && spotB 5 (px qs k) (py qs k)) = false) : cfZ ps qs = 0 := by
  unfold cfZ
  have : (spotsB 5 ps && spotsB 5 qs) = false := by
    cases h1 : spotsB 5 ps <;> cases h2 : spotsB 5 qs <;> try rfl
    have a1 := (upFrom_iff _ _ _).1 h1 k (Nat.zero_le _) hk
    have a2 := (upFrom_iff _ _ _).1 h2 k (Nat.zero_le _) (by omega)
    rw [a1, a2] at h; exact absurd h (by decide)
  rw [Bool.and_assoc, this, Bool.and_false]; rfl

set_option maxRecDepth 100000 in
set_option maxHeartbeats 1000000 in
theorem specCountFamilies_any (u v : Value) (ps qs : List (Int × Int)) (B : Nat) (w : World) (hu : RdP w B u ps) (hv : RdP w B v qs) (hB : B ≤ w.heap.size) :
    Calls Try.prog 16 #[u, v] w fun e w' => e = .returned (.int .i64 (cfZ ps qs)) ∧ Below w.heap.size w w' := by
  have HU := Lib.hid hu
  have HV := Lib.hid hv
  obtain ⟨A, c, rfl, g1, g2, hQ⟩ := hu
  obtain ⟨A', c', rfl, g1', g2', hQ'⟩ := hv
  unfold maxLen at g2 g2'
  cases h1 : spotsOkB ps qs
  · have HF : Hid ((0 : Int) = cfZ ps qs) := by unfold Hid cfZ; rw [h1]; rfl
    generalize cfZ ps qs = r at *
    go_enter Try.func16, Try.ntmps16
    go_wp2_with fail
    refine (specSpotsOk_any _ _ ps qs _ _ HU.out HV.out hB).mono ?_
    rintro e w1 ⟨rfl, hb1⟩
    rw [h1]
    go_wp2_with fail
    go_ret
    exact ⟨ret_int HF.out, hb1⟩
  · have hl0 : 1 ≤ ps.length ∧ ps.length ≤ 3 ∧ ps.length = qs.length := by have := h1; simp only [spotsOkB, Bool.and_eq_true, decide_eq_true_eq, inB_iff] at this; omega
    obtain ⟨hl1, hl2, hl3⟩ := hl0
    have HL := Lib.hid hl3
    have hl4 : qs.length ≤ 3 := by omega
    clear hl3
    go_enter Try.func16, Try.ntmps16
    go_wp2_with fail
    refine (specSpotsOk_any _ _ ps qs _ _ HU.out HV.out hB).mono ?_
    rintro e w1 ⟨rfl, hb1⟩
    rw [h1]
    have hs1 := hb1.size
    go_wp2_with fail
    go_loopw [5] (fun i wr => ∃ k : Nat, k ≤ ps.length ∧ i = .int .i64 k ∧ Hid (∀ j, j < k → spotB 5 (px ps j) (py ps j) = true ∧ spotB 5 (px qs j) (py qs j) = true) ∧ Hid (Below w.heap.size w wr)) (fun i _ => ps.length - (intOf i).toNat)
    case atStart => exact ⟨0, Nat.zero_le _, rfl, fun j hj => absurd hj (by omega), hb1⟩
    case round =>
      obtain ⟨k, hk, rfl, HA, HB⟩ := hrel
      by_cases hlt : k < ps.length
      · obtain ⟨ad, rfl, hbl, hx, hy⟩ := hQ k hlt
        have hx1 := (HB.out.cell (by rw [addBlock]; omega)).trans hx
        have hy1 := (HB.out.cell (p := ⟨(ad.add (k * 2)).block, (ad.add (k * 2)).off + 1, none⟩) (by show (ad.add (k * 2)).block < _; rw [addBlock]; omega)).trans hy
        obtain ⟨ad', rfl, hbl', hx', hy'⟩ := hQ' k (by have := HL.out; omega)
        have k0 : (0 : Int) ≤ (k : Int) := by omega
        have k1 : (k : Int) < (ps.length : Int) := by omega
        have k2 : (k : Int) < (qs.length : Int) := by have := HL.out; omega
        have HC := Lib.hid (cf_no (ps := ps) (qs := qs) HL.out hlt)
        clear hx hy
        cases c1 : spotB 5 (px ps k) (py ps k)
        · go_wp2_with fail
          refine (l20Spot_any _ _ _ _).mono ?_
          rintro e w2 ⟨rfl, hb2⟩
          rw [c1]
          go_wp2_with fail
          go_ret
          exact ⟨ret_int (by rw [HC.out (by rw [c1]; rfl)]), HB.out.trans (hb2.mono HB.out.size)⟩
        · go_wp2_with fail
          refine (l20Spot_any _ _ _ _).mono ?_
          rintro e w2 ⟨rfl, hb2⟩
          rw [c1]
          have hB2 := HB.out.trans (hb2.mono HB.out.size)
          have hx2 := (hB2.cell (by rw [addBlock]; omega)).trans hx'
          have hy2 := (hB2.cell (p := ⟨(ad'.add (k * 2)).block, (ad'.add (k * 2)).off + 1, none⟩) (by show (ad'.add (k * 2)).block < _; rw [addBlock]; omega)).trans hy'
          have HB2 := Lib.hid hB2
          clear hx1 hy1 hx' hy' hB2 hb2
          cases c2 : spotB 5 (px qs k) (py qs k)
          · go_wp2_with fail
            refine (l20Spot_any _ _ _ _).mono ?_
            rintro e w3 ⟨rfl, hb3⟩
            rw [c2]
            go_wp2_with fail
            go_ret
            exact ⟨ret_int (by rw [HC.out (by rw [c1, c2]; rfl)]), HB2.out.trans (hb3.mono HB2.out.size)⟩
          · go_wp2_with fail
            refine (l20Spot_any _ _ _ _).mono ?_
            rintro e w3 ⟨rfl, hb3⟩
            rw [c2]
            have HB3 := Lib.hid (HB2.out.trans (hb3.mono HB2.out.size))
            go_wp2_with fail
            go_roundw
            case rel =>
              refine ⟨k + 1, by omega, by go_num, fun j hj => ?_, HB3⟩
              by_cases e : j = k
              · subst e; exact ⟨c1, c2⟩
              · exact HA.out j (by omega)
            case measure => simp [intOf]; omega
      · have hp : spotsB 5 ps = true := (upFrom_iff _ _ _).2 fun j _ hj => (HA.out j (by omega)).1
        have hq : spotsB 5 qs = true := (upFrom_iff _ _ _).2 fun j _ hj => (HA.out j (by have := HL.out; omega)).2
        have HF : Hid (wrap64 (famZ ps qs 0) = cfZ ps qs) := by unfold Hid cfZ; rw [h1, hp, hq]; rfl
        have f1 := few_of hp
        have f2 := few_of hq
        obtain ⟨sx, sy, e1, e2, e3, e4⟩ := few_get f1 (show 0 < ps.length by omega)
        have hW := lwalk_any ps qs HL.out hl4 f2 f1 qs.length 0 (by omega) (by have := HL.out; omega) sx sy 0 e1 e2 (by omega)
        have HE : Hid (walkZ (px qs 0).toNat (py qs 0).toNat (famZ (ps.drop (0 + 1)) (qs.drop (0 + 1))) 20 sx sy 0 = famZ ps qs 0) := by
          unfold Hid
          have := fam_drop (ps := ps) (qs := qs) (i := 0) (by omega) (by have := HL.out; omega) 0
          rw [e1, e2, Int.toNat_natCast, Int.toNat_natCast] at this
          exact this.symm
        obtain ⟨ad, rfl, hbl, hx, hy⟩ := hQ 0 (by omega)
        rw [Nat.zero_mul, Addr.add_zero'] at hx hy
        rw [e1] at hx
        rw [e2] at hy
        have hx1 := (HB.out.cell (by omega)).trans hx
        have hy1 := (HB.out.cell (p := ⟨ad.block, ad.off + 1, none⟩) (by show ad.block < _; omega)).trans hy
        have hmk : ∀ w : World, (Instr.makeSlice 71 (.int .i64 49) (.int .i64 49)).run Try.prog w = .ok (.slice (some ⟨w.heap.size, 0, none⟩) 49 49) (w.alloc (.cells (madeCells #[.bool false] 49) 4)) :=
          fun w => run_make_row' (P := Try.prog) 71 4 (.bool false) 1 Try.underlying71 infoBool rfl .i64 .i64 49 (by omega) (by omega) w
        have k0 : 0 < ps.length := by omega
        have hBw : B ≤ wr.heap.size := Nat.le_trans hB HB.out.size
        have HX := Lib.hid e1; have HY := Lib.hid e2
        clear hx hy hQ hQ' hp hq f1 f2 e1 e2
        have hk1 : ∀ k, k < wr.heap.size → (wr.alloc (.cells (madeCells #[.bool false] 49) 4)).drew.heap[k]? = wr.heap[k]? := fun k hk => Below.heap_alloc wr _ _ hk
        have hU1 : Used (wr.alloc (.cells (madeCells #[.bool false] 49) 4)).drew wr.heap.size 0 := by unfold Used; rw [used_zero]; exact heap_alloc_new wr _
        have hC0 : ∃ Z : Int, wrap64 Z = cfZ ps qs ∧ Calls Try.prog 63 #[.slice (some ad) ps.length c, .slice A' qs.length c', .int .i64 0, .agg #[.int .i64 (sx : Int), .int .i64 (sy : Int)], .slice (some ⟨wr.heap.size, 0, none⟩) 49 49] (wr.alloc (.cells (madeCells #[.bool false] 49) 4)).drew (LPost (wr.alloc (.cells (madeCells #[.bool false] 49) 4)).drew Z) := by
          have hZ1 := congrArg wrap64 HE.out
          have hC1 := hW _ _ B wr.heap.size _ ((HU.out.below (HB.out.mono hB)).keep fun k hk => hk1 k (by omega)) ((HV.out.below (HB.out.mono hB)).keep fun k hk => hk1 k (by omega)) hBw hU1
          generalize walkZ (px qs 0).toNat (py qs 0).toNat (famZ (ps.drop (0 + 1)) (qs.drop (0 + 1))) 20 sx sy 0 = Z at hZ1 hC1
          exact ⟨Z, hZ1.trans HF.out, hC1⟩
        obtain ⟨Z, hZ, hC1⟩ := hC0
        have HZZ := Lib.hid hZ
        have hC := Lib.hid hC1
        clear hZ hC1 HE HF
        have HBZ : Hid (Below w.heap.size w (wr.alloc (.cells (madeCells #[.bool false] 49) 4)).drew) := (HB.out.alloc HB.out.size _).drew
        have hx2 : (wr.alloc (.cells (madeCells #[.bool false] 49) 4)).drew.cell? ad = some (.int .i64 (sx : Int)) := (World.cell?_of_block (hk1 _ (by omega))).trans hx1
        have hy2 : (wr.alloc (.cells (madeCells #[.bool false] 49) 4)).drew.cell? ⟨ad.block, ad.off + 1, none⟩ = some (.int .i64 (sy : Int)) := (World.cell?_of_block (a := ⟨ad.block, ad.off + 1, none⟩) (hk1 _ (by show ad.block < _; omega))).trans hy1
        clear hk1 hU1 hW
        go_wp2_with fail
        go_region_law (first
          | (go_simp; go_at_call 63; refine hC.out.mono ?_; rintro e w4 ⟨rfl, hb4⟩))
        all_goals
          go_wp2_with fail
          go_ret
          exact ⟨ret_int HZZ.out, HBZ.out.trans (hb4.mono HBZ.out.size)⟩
end Go.Proofs.Ytamnpiihkbjgnaa
