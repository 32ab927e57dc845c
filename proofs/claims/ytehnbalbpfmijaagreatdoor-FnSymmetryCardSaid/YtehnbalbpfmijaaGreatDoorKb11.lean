/- What the claim's walk rests on: parts With, ProfS, CWith, ProfB, ProfL, Links, Posts. -/
import Derived.Test.YtehnbalbpfmijaaGreatDoorKb6
import Derived.Test.YtehnbalbpfmijaaGreatDoorKb3
import Derived.Test.YtehnbalbpfmijaaGreatDoorKb1
import Derived.Test.YtehnbalbpfmijaaGreatDoorKb2
import Derived.Deep.LoopGhost
import Derived.Deep.Cut
import Derived.StillTailTactics
namespace Go.Proofs.YtehnbalbpfmijaaGreatDoor
open Go.RowKit
set_option linter.unusedVariables false

theorem OwnI.stow {w : World} {lo g n cap : Nat} {zs : List Int} (h : OwnI w lo (.slice (some ⟨g, 0, none⟩) n cap) zs) (hl : zs.length = n) (i : Nat) (z : Int) : OwnI (w.setCell ⟨g, i, none⟩ (.int .i64 z)) lo (.slice (some ⟨g, 0, none⟩) n cap) (zs.set i z) := by
  subst hl
  have hst := World.ownsRow.stored h i (.int .i64 z)
  unfold OwnI
  rw [List.length_set, List.map_set]
  exact hst.1
theorem OwnI.look {w : World} {lo g n cap : Nat} {zs : List Int} (h : OwnI w lo (.slice (some ⟨g, 0, none⟩) n cap) zs) (hl : zs.length = n) {i : Nat} (hi : i < n) : w.cell? ⟨g, i, none⟩ = some (.int .i64 (el zs i)) ∧ w.frozen? ⟨g, i, none⟩ = false := by
  subst hl
  refine ⟨?_, World.ownsRow.frozenAt h i⟩
  rw [World.ownsRow.cellAt h i (by omega), List.getElem?_map, List.getElem?_eq_getElem (by omega), el_get _ _ (by omega)]; rfl

theorem flat_intW (zs : List Int) : zs.flatMap elInt.f = zs.map (Value.int .i64) := by
  induction zs with
  | nil => rfl
  | cons z zs ih => rw [List.flatMap_cons, ih]; rfl
set_option maxRecDepth 100000 in
set_option maxHeartbeats 700000 in
theorem l03Copy_yes (v : Value) (zs : List Int) (B : Nat) (w : World) (h : RdI w B v zs) (hB : B ≤ w.heap.size) (hl : zs.length ≤ 8) :
    Calls Tryz.prog 78 #[.agg #[v]] w fun e w' => ∃ u, e = .returned (.agg #[u]) ∧ OwnI w' w.heap.size u zs ∧ Below w.heap.size w w' := by
  obtain ⟨A, c, rfl, g1, g2, hR⟩ := id h
  unfold maxLen at g2
  obtain ⟨W, hW, k0, k1, hb0⟩ := two_alloc w (.cells #[.slice A zs.length c] 35) (.cells #[.slice none 0 0] 35)
  have HK1 := Lib.hid k1
  have HB0 := Lib.hid hb0
  have hba : Below W.heap.size W (W.alloc (.cells #[] 3)) := (Below.refl _ _).alloc (Nat.le_refl _) _
  have c0 : (W.alloc (.cells #[] 3)).cell? ⟨w.heap.size, 0, none⟩ = some (.slice A zs.length c) := by rw [blk_cell (blk_below k0 hba)]; rfl
  have HACC : Hid (Acc elInt W W.heap.size (W.alloc (.cells #[] 3)) (.slice (some ⟨W.heap.size, 0, none⟩) 0 0) []) := Acc.start W
  have HRA : Hid (Rd (W.alloc (.cells #[] 3)) B A (zs.flatMap elInt.f)) := by
    have e := flat_intW zs
    unfold Hid
    rw [e]
    exact hR.below ((hb0.trans (hba.mono hb0.size)).mono hB)
  have HHL := Lib.hid hl
  clear h hR hl k0 k1 hb0 hba
  go_enter Tryz.func78, Tryz.ntmps78
  go_upto_region 1 with (fail)
  rw [← hW]
  clear hW
  go_wp2_with (at_builtin; refine wpList_pushSrc okInt rfl rfl _ _ rfl HACC.out rfl zs B A zs.length c HRA.out rfl rfl (by have := HHL.out; simp; omega) ?_; intro u1 w1 HA1 HG1; rw [List.nil_append] at HA1; have HKW := Lib.hid (blk_below HK1.out HA1.out.2.1); have f1 := free_of_one HKW.out; have d1 := cell_of_one HKW.out; have HO1 := Lib.hid (ownF_int.1 HA1.out.1); have HB1 := Lib.hid (HB0.out.trans (HA1.out.2.1.mono HB0.out.size)); obtain ⟨A1, c1, hu1, _⟩ := HO1.out.rd; subst hu1)
  have hlo := HO1.out.lt
  have hsz : w.heap.size + 1 < W.heap.size := lt_of_block HK1.out
  have k9 : (w1.setCell ⟨w.heap.size + 1, 0, none⟩ (.slice A1 zs.length c1)).heap[w.heap.size + 1]? = some (.cells #[.slice A1 zs.length c1] 35 (0, 0)) := (blk_setCell HKW.out _).trans (by simp)
  have r0 : (w1.setCell ⟨w.heap.size + 1, 0, none⟩ (.slice A1 zs.length c1)).cell? ⟨w.heap.size + 1, 0, none⟩ = some (.slice A1 zs.length c1) := cell_of_one k9
  have HN : Hid (OwnI (w1.setCell ⟨w.heap.size + 1, 0, none⟩ (.slice A1 zs.length c1)) w.heap.size (.slice A1 zs.length c1) zs) := (HO1.out.setCell (p := ⟨w.heap.size + 1, 0, none⟩) hsz _).mono (by omega)
  have HBN : Hid (Below w.heap.size w (w1.setCell ⟨w.heap.size + 1, 0, none⟩ (.slice A1 zs.length c1))) := HB1.out.setCell (Nat.le_succ _) _
  clear k9 hlo
  refine bodyPost_ret (v := .agg #[.slice A1 zs.length c1]) (by simp [results, Tryz.results78, go_sem, r0]) rfl ⟨_, rfl, HN.out, HBN.out⟩

/-- The rows, made eight. -/
def padZ (zs : List Int) (j : Nat) : List Int := zs ++ List.replicate j 0
/-- The rows without a cell. -/
def offRow (zs : List Int) (x y : Nat) : List Int := (padZ zs (8 - zs.length)).set y ((((el (padZ zs (8 - zs.length)) y).toNat ||| 2 ^ x) - 2 ^ x : Nat) : Int)
theorem padZ_el (zs : List Int) (j k : Nat) : el (padZ zs j) k = if k < zs.length then el zs k else 0 := by
  unfold padZ el
  rw [List.getD_eq_getElem?_getD, List.getD_eq_getElem?_getD, List.getElem?_append]
  by_cases h : k < zs.length
  · rw [if_pos h, if_pos h]
  · rw [if_neg h, if_neg h]
    by_cases h2 : k - zs.length < j
    · rw [List.getElem?_eq_getElem (by simpa using h2)]; simp
    · rw [List.getElem?_eq_none (by simp; omega)]; rfl

structure WB (w wr : World) (lo p6 pc m8 : Nat) (x y : Nat) (v : Value) (zs : List Int) : Prop where
  c6 : wr.heap[p6]? = some (.cells #[.slice none 0 0] 35 (0, 0))
  cc : wr.heap[pc]? = some (.cells #[.int .i64 (x : Int), .int .i64 (y : Int)] 44 (0, 0))
  c8 : wr.heap[m8]? = some (.cells #[v] 35 (0, 0))
  acc : Acc elInt w lo wr v zs
  ne : ∀ g, v.ownBlock = some g → g ≠ m8
  l6 : w.heap.size ≤ p6
  lc : w.heap.size ≤ pc
  h6 : p6 < lo
  hc : pc < lo
  l8 : lo ≤ m8
theorem WB.below {w wr w1 : World} {lo p6 pc m8 x y : Nat} {v : Value} {zs : List Int} (h : WB w wr lo p6 pc m8 x y v zs) (hb : Below wr.heap.size wr w1) : WB w w1 lo p6 pc m8 x y v zs :=
  ⟨blk_below h.c6 hb, blk_below h.cc hb, blk_below h.c8 hb, h.acc.below hb, h.ne, h.l6, h.lc, h.h6, h.hc, h.l8⟩
theorem WB.push {w wr w2 : World} {lo p6 pc m8 x y : Nat} {v v' : Value} {zs zs' : List Int} (h : WB w wr lo p6 pc m8 x y v zs) (HA : Acc elInt w lo w2 v' zs') (HG : Grew wr w2 v v') :
    WB w (w2.setCell ⟨m8, 0, none⟩ v') lo p6 pc m8 x y v' zs' ∧ ∃ u, w2.heap[m8]? = some (.cells #[u] 35 (0, 0)) := by
  obtain ⟨g1, g, g2, g3, g4⟩ := HG
  have h6 := h.h6
  have hc := h.hc
  have hl8 := h.l8
  have h8 := lt_of_block h.c8
  have hown := h.acc.1.lt
  have k6 : w2.heap[p6]? = _ := (g1.block p6 (by omega) fun e => by have := (hown p6 e.symm).1; omega).trans h.c6
  have kc : w2.heap[pc]? = _ := (g1.block pc (by omega) fun e => by have := (hown pc e.symm).1; omega).trans h.cc
  have k8 : w2.heap[m8]? = _ := (g1.block m8 h8 fun e => h.ne m8 e.symm rfl).trans h.c8
  have hg : g ≠ m8 := by
    rcases g3 with g3 | g3
    · exact h.ne g g3
    · omega
  have hw : w.heap.size ≤ m8 := Nat.le_trans h.acc.2.2.1 hl8
  refine ⟨⟨(Below.heap_setCell _ _ _ _ (by show p6 ≠ m8; omega)).trans k6, (Below.heap_setCell _ _ _ _ (by show pc ≠ m8; omega)).trans kc, (blk_setCell k8 _).trans (by simp), ⟨HA.1.same fun k hk => Below.heap_setCell _ _ _ _ ?_, HA.2.1.setCell hw _, HA.2.2.1, by simpa using HA.2.2.2⟩, fun k hk => ?_, h.l6, h.lc, h.h6, h.hc, h.l8⟩, ⟨_, k8⟩⟩
  · rw [g2] at hk
    obtain rfl := Option.some.inj hk
    exact hg
  · rw [g2] at hk
    obtain rfl := Option.some.inj hk
    exact hg
theorem WB.store {w wr : World} {lo p6 pc m8 x y g n cap : Nat} {zs : List Int} (h : WB w wr lo p6 pc m8 x y (.slice (some ⟨g, 0, none⟩) n cap) zs) (hl : zs.length = n) (i : Nat) (z : Int) :
    WB w (wr.setCell ⟨g, i, none⟩ (.int .i64 z)) lo p6 pc m8 x y (.slice (some ⟨g, 0, none⟩) n cap) (zs.set i z) := by
  have hg := h.acc.1.lt g rfl
  have hn := h.ne g rfl
  have h6 := h.h6
  have hc := h.hc
  have hw := h.acc.2.2.1
  exact ⟨(Below.heap_setCell _ _ _ _ (by show p6 ≠ g; omega)).trans h.c6, (Below.heap_setCell _ _ _ _ (by show pc ≠ g; omega)).trans h.cc, (Below.heap_setCell _ _ _ _ (by show m8 ≠ g; omega)).trans h.c8,
    ⟨ownF_int.2 ((ownF_int.1 h.acc.1).stow hl i z), h.acc.2.1.setCell (by show w.heap.size ≤ g; omega) _, hw, by simpa using h.acc.2.2.2⟩, h.ne, h.l6, h.lc, h.h6, h.hc, h.l8⟩
theorem shl_w (x : Nat) (hx : x ≤ 7) : wrap64 ((2 : Int) ^ x) = ((2 ^ x : Nat) : Int) ∧ IntKind.i64.wrap ((2 : Int) ^ x) = ((2 ^ x : Nat) : Int) ∧ 2 ^ x ≤ 128 := by
  have h : (2 ^ x : Nat) ≤ 2 ^ 7 := Nat.pow_le_pow_right (by omega) hx
  have e : ((2 : Int) ^ x) = ((2 ^ x : Nat) : Int) := by simp
  rw [e]
  generalize (2 ^ x : Nat) = p at *
  simp at h
  refine ⟨?_, IntWalk.i64_in _ (by omega), h⟩
  unfold wrap64
  omega
theorem i64_orW (a b : Nat) (ha : a < 4611686018427387904) (hb : b < 4611686018427387904) : bits .or .i64 (a : Int) (b : Int) = ((a ||| b : Nat) : Int) := by
  have hlt : a ||| b < 2 ^ 62 := Nat.or_lt_two_pow (by omega) (by omega)
  have ea : ((a : Int) % ((2 ^ 64 : Nat) : Int)).toNat = a := by omega
  have eb : ((b : Int) % ((2 ^ 64 : Nat) : Int)).toNat = b := by omega
  have key : (BitVec.ofInt 64 (a : Int) ||| BitVec.ofInt 64 (b : Int)).toNat = a ||| b := by
    rw [BitVec.toNat_or, BitVec.toNat_ofInt, BitVec.toNat_ofInt, ea, eb]
  show IntKind.i64.wrap ((BitVec.ofInt 64 (a : Int) ||| BitVec.ofInt 64 (b : Int)).toNat : Nat) = _
  rw [key, IntKind.wrap_i64]
  generalize a ||| b = q at *
  simp at hlt
  omega
theorem sub_w {ro q2 : Nat} (h : q2 ≤ ro) (h2 : ro ≤ 255) : IntKind.i64.wrap ((ro : Int) - (q2 : Int)) = ((ro - q2 : Nat) : Int) ∧ (ro : Int) - (q2 : Int) = ((ro - q2 : Nat) : Int) ∧ wrap64 ((ro - q2 : Nat) : Int) = ((ro - q2 : Nat) : Int) := by
  have e : (ro : Int) - (q2 : Int) = ((ro - q2 : Nat) : Int) := by omega
  exact ⟨by rw [e]; exact IntWalk.i64_in _ (by omega), e, by unfold wrap64; omega⟩
theorem or_at {r x : Nat} (hr : r ≤ 255) (hx : x ≤ 7) : bits .or .i64 (r : Int) ((2 ^ x : Nat) : Int) = ((r ||| 2 ^ x : Nat) : Int) ∧ r ||| 2 ^ x ≤ 255 ∧ 2 ^ x ≤ r ||| 2 ^ x := by
  have h : (2 ^ x : Nat) < 2 ^ 8 := Nat.pow_lt_pow_right (by omega) (by omega)
  have h2 := Nat.or_lt_two_pow (n := 8) (show r < 2 ^ 8 by omega) h
  refine ⟨i64_orW _ _ (by omega) (by omega), by omega, Nat.right_le_or⟩

set_option maxRecDepth 100000 in
set_option maxHeartbeats 700000 in
theorem WithCell_off (v : Value) (zs : List Int) (B : Nat) (w : World) (h : RdI w B v zs) (hB : B ≤ w.heap.size) (hok : regOkB zs = true) (x y : Nat) (hx : x ≤ 7) (hy : y ≤ 7) :
    Calls Tryz.prog 59 #[.agg #[v], spotV x y, .bool false] w fun e w' => ∃ u, e = .returned (.tuple #[.agg #[u], .bool true]) ∧ OwnI w' w.heap.size u (offRow zs x y) ∧ Below w.heap.size w w' := by
  have hl8 := regOk_len hok
  have hcok : spotB 7 (x : Int) (y : Int) = true := (spotB_iff _ _ _).2 ⟨by omega, by omega⟩
  have HCP := Lib.hid (fun V (hb : Below w.heap.size w V) => l03Copy_yes v zs B V (h.below (hb.mono hB)) (Nat.le_trans hB hb.size) hl8)
  have HRO := Lib.hid (fun V (hb : Below w.heap.size w V) => specRegionOk_yes v zs B V (h.below (hb.mono hB)) (Nat.le_trans hB hb.size) hok)
  have hpl : (padZ zs (8 - zs.length)).length = 8 := by unfold padZ; rw [List.length_append, List.length_replicate]; omega
  have hel : 0 ≤ el (padZ zs (8 - zs.length)) y ∧ el (padZ zs (8 - zs.length)) y ≤ 255 := by
    rw [padZ_el]
    split
    · exact regOk_el hok (by assumption)
    · omega
  obtain ⟨r, hr⟩ := Int.eq_ofNat_of_zero_le hel.1
  have hr255 : r ≤ 255 := by omega
  obtain ⟨ho1, ho2, ho3⟩ := or_at hr255 hx
  obtain ⟨hs1, hs2, hs3⟩ := shl_w x hx
  have HOR : Hid (offRow zs x y = ((padZ zs (8 - zs.length)).set y ((r ||| 2 ^ x : Nat) : Int)).set y (((r ||| 2 ^ x) - 2 ^ x : Nat) : Int)) := by
    unfold Hid offRow
    rw [hr, Int.toNat_natCast, List.set_set]
  rw [HOR.out]
  have HPZ : Hid (∀ j, padZ zs (j + 1) = padZ zs j ++ [0]) := fun j => by unfold padZ; rw [List.replicate_succ', List.append_assoc]
  have HP0 : Hid (padZ zs 0 = zs) := by unfold Hid padZ; simp
  have HPLN : Hid (∀ j, (padZ zs j).length = zs.length + j) := fun j => by unfold padZ; simp
  have HR := Lib.hid hr
  have HO1 := Lib.hid ho1
  obtain ⟨q2, HQ2⟩ : ∃ q2, Hid ((2 ^ x : Nat) = q2) := ⟨_, rfl⟩
  rw [HQ2.out] at hs1 hs2 hs3 HO1 ho2 ho3 ⊢
  obtain ⟨ro, HRO2⟩ : ∃ ro, Hid (r ||| q2 = ro) := ⟨_, rfl⟩
  rw [HRO2.out] at HO1 ho2 ho3 ⊢
  obtain ⟨hsb1, hsb2, hsb3⟩ := sub_w ho3 ho2
  have HW1 := Lib.hid hs1; have HW2 := Lib.hid hs2; have HSB1 := Lib.hid hsb1; have HSB2 := Lib.hid hsb2; have HSB3 := Lib.hid hsb3
  clear HQ2 HRO2 hel ho1 HOR hok hpl hs1 hs2 hsb1 hsb2 hsb3 hr
  obtain ⟨A, c, rfl, g1, g2, _⟩ := h
  unfold maxLen at g2
  obtain ⟨W, hW, k0, k1, k2, hb0⟩ := three_alloc w (.cells #[.slice A zs.length c] 35) (.cells #[.int .i64 (x : Int), .int .i64 (y : Int)] 44) (.cells #[.slice none 0 0] 35)
  have c0 : W.cell? ⟨w.heap.size, 0, none⟩ = some (.slice A zs.length c) := by rw [blk_cell k0]; rfl
  have HK0 := Lib.hid k0; have HK1 := Lib.hid k1; have HK2 := Lib.hid k2
  have HB0 := Lib.hid hb0
  have HWS : Hid (W.heap.size = w.heap.size + 3) := by unfold Hid; rw [hW]; simp
  go_enter Tryz.func59, Tryz.ntmps59
  go_upto_region 1 with (fail)
  rw [← hW]
  clear hW k0 k1 k2 hb0
  go_wp2_with fail
  refine (HCP.out W HB0.out).mono ?_
  rintro e w1 ⟨u1, rfl, ho1, hb1⟩
  have HB1 := Lib.hid (HB0.out.trans (hb1.mono HB0.out.size))
  obtain ⟨W2, hW2, k8, hb2⟩ := one_alloc w1 (.cells #[u1] 35)
  have HWB : Hid (WB w W2 W.heap.size (w.heap.size + 2) (w.heap.size + 1) w1.heap.size x y u1 (padZ zs 0)) := by
    have hs := hb1.size
    have hws := HWS.out
    unfold Hid
    rw [HP0.out]
    refine ⟨blk_below (blk_below HK2.out hb1) hb2, blk_below (blk_below HK1.out hb1) hb2, k8, ⟨ownF_int.2 (ho1.below hb2), HB1.out.trans (hb2.mono HB1.out.size), by omega, Nat.le_trans hs hb2.size⟩, fun g hg => ?_, by omega, by omega, by omega, by omega, hs⟩
    have := (ho1.lt g hg).2
    omega
  have HB2 := Lib.hid (HB1.out.trans (hb2.mono HB1.out.size))
  have d0 : W2.cell? ⟨w.heap.size, 0, none⟩ = some (.slice A zs.length c) := by rw [blk_cell (blk_below (blk_below HK0.out hb1) hb2)]; rfl
  have HW2 := Lib.hid hW2
  rw [hW2] at d0
  obtain ⟨A1, ca1, hu1, _⟩ := ho1.rd
  subst hu1
  clear hW2 k8 hb1 hb2 c0 ho1
  go_wp2_with fail
  rw [← HW2.out]
  clear d0 HW2
  refine (HRO.out W2 HB2.out).mono ?_
  rintro e w3 ⟨rfl, hb3⟩
  have HWB3 := Lib.hid (HWB.out.below hb3)
  have HB3 := Lib.hid (HB2.out.trans (hb3.mono HB2.out.size))
  have e0 : w3.cell? ⟨w.heap.size + 1, 0, none⟩ = some (.int .i64 (x : Int)) := by rw [blk_cell HWB3.out.cc]; rfl
  have e1 : w3.cell? ⟨w.heap.size + 1, 1, none⟩ = some (.int .i64 (y : Int)) := by rw [blk_cell HWB3.out.cc]; rfl
  clear hb3
  go_wp2_with fail
  refine (specCellOk_any _ _ _).mono ?_
  rintro e w4 ⟨rfl, hb4⟩
  rw [hcok]
  have HWB4 := Lib.hid (HWB3.out.below hb4)
  clear hb4 e0 e1
  go_wp2_with fail
  go_loopg [] (8 - zs.length) (fun gk wr => ∃ (j : Nat) (u : Value), gk + j = 8 - zs.length ∧ Hid (WB w wr W.heap.size (w.heap.size + 2) (w.heap.size + 1) w1.heap.size x y u (padZ zs j)))
  case atStart => exact ⟨0, _, by omega, HWB4⟩
  case round =>
    obtain ⟨j, u, hj, HQ⟩ := hrel
    by_cases hlt : zs.length + j < 8
    · obtain ⟨Au, cu, hu, q1, q2, _⟩ := HQ.out.acc.1.rd okInt
      subst hu
      unfold maxLen at q2
      have m8 := cell_of_one HQ.out.c8
      have ht : decide (((padZ zs j).length : Int) < 8) = true := by simp only [decide_eq_true_eq]; have := HPLN.out j; omega
      have hps : (padZ zs j).length ≤ 8 := by have := HPLN.out j; omega
      have HPJ := Lib.hid (HPZ.out j)
      generalize padZ zs j = ps at *
      go_wp2_with (at_builtin; refine wpList_push okInt rfl _ _ rfl HQ.out.acc rfl (0 : Int) _ rfl _ rfl rfl (by omega) ?_; intro v10 w10 HA10 HG10; obtain ⟨A10, k10, hv10, _⟩ := HA10.out.1.rd okInt; rw [show (ps ++ [(0 : Int)]).length = ps.length + 1 by simp] at hv10; subst hv10; have HP10 := Lib.hid (HQ.out.push HA10.out HG10.out); obtain ⟨u9, hk9⟩ := HP10.out.2; have ck := cell_of_one hk9; have fk := free_of_one hk9; clear hk9)
      go_roundg (gk - 1)
      case measure => omega
      case rel => exact ⟨j + 1, _, by omega, by rw [HPJ.out]; exact HP10.out.1⟩
    · obtain rfl : gk = 0 := by omega
      obtain rfl : j = 8 - zs.length := by omega
      have HLN : Hid ((padZ zs (8 - zs.length)).length = 8) := by unfold Hid; rw [HPLN.out]; omega
      have ht : decide (((padZ zs (8 - zs.length)).length : Int) < 8) = false := by rw [HLN.out]; rfl
      have ho := ownF_int.1 HQ.out.acc.1
      have hps : (padZ zs (8 - zs.length)).length ≤ 8 := Nat.le_of_eq HLN.out
      obtain ⟨gg, cgg, hv1, hgb, hglt⟩ := World.ownsRow.form ho (by rw [HLN.out]; omega)
      subst hv1
      have m8 := cell_of_one HQ.out.c8
      obtain ⟨e0, fr⟩ := ho.look (i := y) rfl (by rw [HLN.out]; omega)
      rw [HR.out] at e0
      have xc0 : wr.cell? ⟨w.heap.size + 1, 0, none⟩ = some (.int .i64 (x : Int)) := by rw [blk_cell HQ.out.cc]; rfl
      have xc1 : wr.cell? ⟨w.heap.size + 1, 1, none⟩ = some (.int .i64 (y : Int)) := by rw [blk_cell HQ.out.cc]; rfl
      have hy0 : (0 : Int) ≤ (y : Int) := by omega
      have hy1 : (y : Int) < ((padZ zs (8 - zs.length)).length : Int) := by rw [HLN.out]; omega
      have hx0 : (0 : Int) ≤ (x : Int) := by omega
      have hx1 : (x : Int) < 64 := by omega
      have hw1 := HW1.out; have hw2 := HW2.out; have hor := HO1.out
      clear ho hlt
      generalize hps0 : padZ zs (8 - zs.length) = ps at *
      have HPS := Lib.hid hps0
      clear hps0
      go_wp2_with fail
      go_still_tail 15, (by kernel_rfl)
      change wpList _ _ _ _ _ wr.drew
      have HQd := Lib.hid (HQ.out.below (Below.refl wr.heap.size wr).drew)
      clear m8 e0 fr xc0 xc1 hor HQ
      generalize wr.drew = V at *
      obtain ⟨_, fr⟩ := (ownF_int.1 HQd.out.acc.1).look (i := y) rfl (by omega)
      go_wp2_with fail
      have HQ6 := Lib.hid (HQd.out.store rfl y (ro : Int))
      have HL6 : Hid ((ps.set y (ro : Int)).length = ps.length) := List.length_set
      have HE6 : Hid (el (ps.set y (ro : Int)) y = (ro : Int)) := by unfold Hid el; rw [List.getD_eq_getElem?_getD, List.getElem?_set_self (by omega)]; rfl
      generalize V.setCell ⟨gg, y, none⟩ (.int .i64 (ro : Int)) = V6 at *
      clear fr HQd
      obtain ⟨e6, fr6⟩ := (ownF_int.1 HQ6.out.acc.1).look (i := y) HL6.out (by omega)
      rw [HE6.out] at e6
      have m8 := cell_of_one HQ6.out.c8
      have xc0 : V6.cell? ⟨w.heap.size + 1, 0, none⟩ = some (.int .i64 (x : Int)) := by rw [blk_cell HQ6.out.cc]; rfl
      have xc1 : V6.cell? ⟨w.heap.size + 1, 1, none⟩ = some (.int .i64 (y : Int)) := by rw [blk_cell HQ6.out.cc]; rfl
      have hsb1 := HSB1.out; have hsb2 := HSB2.out; have hsb3 := HSB3.out
      go_still_tail 15, (by kernel_rfl)
      change wpList _ _ _ _ _ V6.drew
      have HQ7 := Lib.hid (HQ6.out.below (Below.refl V6.heap.size V6).drew)
      clear m8 e6 fr6 xc0 xc1 HQ6
      generalize V6.drew = V7 at *
      obtain ⟨_, fr7⟩ := (ownF_int.1 HQ7.out.acc.1).look (i := y) HL6.out (by omega)
      have HQ8 := Lib.hid (HQ7.out.store HL6.out y ((ro - q2 : Nat) : Int))
      obtain ⟨V8, HV8⟩ : ∃ V8, Hid (V8 = V7.setCell ⟨gg, y, none⟩ (.int .i64 ((ro - q2 : Nat) : Int))) := ⟨_, rfl⟩
      rw [← HV8.out] at HQ8
      have m8 := cell_of_one HQ8.out.c8
      have m6 := cell_of_one HQ8.out.c6
      have f6 := free_of_one HQ8.out.c6
      rw [HV8.out] at m8 m6 f6
      go_wp2_with fail
      rw [← HV8.out]
      have k9 : (V8.setCell ⟨w.heap.size + 1 + 1, 0, none⟩ (.slice (some ⟨gg, 0, none⟩) ps.length cgg)).heap[w.heap.size + 1 + 1]? = some (.cells #[.slice (some ⟨gg, 0, none⟩) ps.length cgg] 35 (0, 0)) := (blk_setCell HQ8.out.c6 _).trans (by simp)
      have r0 : (V8.setCell ⟨w.heap.size + 1 + 1, 0, none⟩ (.slice (some ⟨gg, 0, none⟩) ps.length cgg)).cell? ⟨w.heap.size + 1 + 1, 0, none⟩ = some (.slice (some ⟨gg, 0, none⟩) ps.length cgg) := cell_of_one k9
      have HN := Lib.hid ((ownF_int.1 HQ8.out.acc.1).setCell (p := ⟨w.heap.size + 1 + 1, 0, none⟩) (by have := HWS.out; show w.heap.size + 1 + 1 < _; omega) (.slice (some ⟨gg, 0, none⟩) ps.length cgg))
      have HBN := Lib.hid (HQ8.out.acc.2.1.setCell (p := ⟨w.heap.size + 1 + 1, 0, none⟩) (by show w.heap.size ≤ w.heap.size + 1 + 1; omega) (.slice (some ⟨gg, 0, none⟩) ps.length cgg))
      clear k9 m8 m6 f6
      refine bodyPost_ret (v := .tuple #[.agg #[.slice (some ⟨gg, 0, none⟩) ps.length cgg], .bool true]) (by simp [results, Tryz.results59, go_sem, r0]) rfl ⟨_, rfl, ?_, HBN.out⟩
      rw [HPS.out]
      exact HN.out.mono (by have := HWS.out; omega)
end Go.Proofs.YtehnbalbpfmijaaGreatDoor

namespace Go.Proofs.YtehnbalbpfmijaaGreatDoor
open Go.RowKit
set_option linter.unusedVariables false

structure QB (w wr : World) (v : Value) (rows : List Int) (p1 gn : Nat) (zs : List Int) : Prop where
  er : wr.heap[p1]? = some (.cells #[v] 35 (0, 0))
  rn : Row256 wr gn zs
  big : Below w.heap.size w wr
  rd : ∃ B, B ≤ w.heap.size ∧ RdI wr B v rows
  l1 : w.heap.size ≤ p1
  ln : p1 < gn
structure QF (w wr : World) (v : Value) (rows : List Int) (p1 gn p7 gx x y : Nat) (zs nx : List Int) : Prop where
  er : wr.heap[p1]? = some (.cells #[v] 35 (0, 0))
  rn : Row256 wr gn zs
  ec : wr.heap[p7]? = some (.cells #[.int .i64 (x : Int), .int .i64 (y : Int)] 44 (0, 0))
  rx : Row256 wr gx nx
  big : Below w.heap.size w wr
  rd : ∃ B, B ≤ w.heap.size ∧ RdI wr B v rows
  l1 : w.heap.size ≤ p1
  n1 : gx ≠ p1
  nn : gx ≠ gn
  nc : gx ≠ p7
  lx : p1 < gx
section
variable {w wr w1 : World} {v : Value} {rows : List Int} {p1 gn p7 gx x y : Nat} {zs nx nx' : List Int}
theorem QB.below (h : QB w wr v rows p1 gn zs) (hb : Below wr.heap.size wr w1) : QB w w1 v rows p1 gn zs := by
  obtain ⟨B, hB, hr⟩ := h.rd
  exact ⟨blk_below h.er hb, h.rn.keep (hb.block _ (lt_of_block h.rn.1)), h.big.trans (hb.mono h.big.size), ⟨B, hB, hr.below (hb.mono (Nat.le_trans hB h.big.size))⟩, h.l1, h.ln⟩
theorem QB.set (h : QB w wr v rows p1 gn zs) (k : Nat) (z : Int) : QB w (wr.setCell ⟨gn, k, none⟩ (.int .i64 z)) v rows p1 gn (zs.set k z) := by
  obtain ⟨B, hB, hr⟩ := h.rd
  have hl := h.ln
  have hl1 := h.l1
  have hb : Below w.heap.size wr (wr.setCell ⟨gn, k, none⟩ (.int .i64 z)) := (Below.refl _ _).setCell (by show w.heap.size ≤ gn; omega) _
  exact ⟨(Below.heap_setCell _ _ _ _ (by show p1 ≠ gn; omega)).trans h.er, h.rn.set k z, h.big.trans hb, ⟨B, hB, hr.below (hb.mono hB)⟩, h.l1, h.ln⟩
theorem QF.below (h : QF w wr v rows p1 gn p7 gx x y zs nx) (hb : Below wr.heap.size wr w1) : QF w w1 v rows p1 gn p7 gx x y zs nx := by
  obtain ⟨B, hB, hr⟩ := h.rd
  exact ⟨blk_below h.er hb, h.rn.keep (hb.block _ (lt_of_block h.rn.1)), blk_below h.ec hb, h.rx.keep (hb.block _ (lt_of_block h.rx.1)), h.big.trans (hb.mono h.big.size), ⟨B, hB, hr.below (hb.mono (Nat.le_trans hB h.big.size))⟩, h.l1, h.n1, h.nn, h.nc, h.lx⟩
theorem QF.set (h : QF w wr v rows p1 gn p7 gx x y zs nx) (k : Nat) (z : Int) : QF w (wr.setCell ⟨gx, k, none⟩ (.int .i64 z)) v rows p1 gn p7 gx x y zs (nx.set k z) := by
  obtain ⟨B, hB, hr⟩ := h.rd
  have hk : ∀ j, gx ≠ j → (wr.setCell ⟨gx, k, none⟩ (.int .i64 z)).heap[j]? = wr.heap[j]? := fun j hj => Below.heap_setCell _ _ _ _ (Ne.symm hj)
  have hl := h.lx
  have hl1 := h.l1
  have hb : Below w.heap.size wr (wr.setCell ⟨gx, k, none⟩ (.int .i64 z)) := (Below.refl _ _).setCell (by show w.heap.size ≤ gx; omega) _
  exact ⟨(hk _ h.n1).trans h.er, h.rn.keep (hk _ h.nn), (hk _ h.nc).trans h.ec, h.rx.set k z, h.big.trans hb, ⟨B, hB, hr.below (hb.mono hB)⟩, h.l1, h.n1, h.nn, h.nc, h.lx⟩
theorem QF.cells (h : QF w wr v rows p1 gn p7 gx x y zs nx) : wr.cell? ⟨p1, 0, none⟩ = some v ∧ wr.cell? ⟨p7, 0, none⟩ = some (.int .i64 (x : Int)) ∧ wr.cell? ⟨p7, 1, none⟩ = some (.int .i64 (y : Int)) :=
  ⟨by rw [blk_cell h.er]; rfl, by rw [blk_cell h.ec]; rfl, by rw [blk_cell h.ec]; rfl⟩
end
theorem shl_q (x : Nat) (hx : x ≤ 7) : wrap64 ((2 : Int) ^ x) = ((2 ^ x : Nat) : Int) := by
  have h : (2 ^ x : Nat) ≤ 2 ^ 7 := Nat.pow_le_pow_right (by omega) hx
  have e : ((2 : Int) ^ x) = ((2 ^ x : Nat) : Int) := by simp
  rw [e]
  generalize (2 ^ x : Nat) = p at *
  simp at h
  unfold wrap64
  omega

set_option maxRecDepth 100000 in
set_option maxHeartbeats 8000000 in
theorem l07Count_yes (v : Value) (rows : List Int) (B : Nat) (w : World) (hr : RdI w B v rows) (hB : B ≤ w.heap.size) (hok : regOkB rows = true) :
    Calls Tryz.prog 27 #[.agg #[v]] w fun e w' => e = .returned (.int .i64 (profZ (setZ rows))) ∧ Below w.heap.size w w' := by
  obtain ⟨T, HT⟩ : ∃ T, Hid (setZ rows = T) := ⟨_, rfl⟩
  rw [HT.out]
  obtain ⟨pf, HPF⟩ : ∃ pf : Nat → List Int, Hid (pf = profTo T) := ⟨_, rfl⟩
  obtain ⟨z0, HZ0⟩ : ∃ z : List Int, Hid (z = zeros) := ⟨_, rfl⟩
  have HPS : Hid (∀ i, pf (i + 1) = stepTo (hasC T (i % 8) (i / 8)) (hasC T (i % 8) (i / 8 + 1)) (hasC T (i % 8 + 1) (i / 8)) (i % 8) (pf i) 256) := by rw [HPF.out]; exact fun i => rfl
  have HPW : Hid (∀ i, WOk (pf i)) := by rw [HPF.out]; exact WOk.prof T
  have HP00 : Hid (pf 0 = z0.set 0 1) := by rw [HPF.out, HZ0.out]; rfl
  have HFZ : Hid (∀ r, pf 64 = r → profZ T = el r 0) := by rw [HPF.out]; exact fun r h => by rw [← h]; rfl
  have HST0 : Hid (∀ (h b r : Bool) (x : Nat) (zs : List Int), stepTo h b r x zs 0 = z0) := by rw [HZ0.out]; exact fun _ _ _ _ _ => rfl
  have HZL : Hid (z0.length = 256) := by rw [HZ0.out]; exact zeros_len
  obtain ⟨res, HRES⟩ : ∃ r, Hid (profZ T = r) := ⟨_, rfl⟩
  rw [HRES.out] at HFZ ⊢
  have hmk : ∀ w : World, (Instr.makeSlice 33 (.int .i64 256) (.int .i64 256)).run Tryz.prog w = .ok (.slice (some ⟨w.heap.size, 0, none⟩) 256 256) (w.alloc (.cells (madeCells #[.int .i64 0] 256) 3)) := fun _ => by kernel_rfl
  rw [made256, ← HZ0.out] at hmk
  clear HPF HZ0 HRES
  have HR := Lib.hid hr
  obtain ⟨A, c, rfl, _, g2, _⟩ := hr
  unfold maxLen at g2
  obtain ⟨v, HV⟩ : ∃ v, Hid (v = Value.slice A rows.length c) := ⟨_, rfl⟩
  rw [← HV.out] at HR ⊢
  obtain ⟨W, hW, k0, k1, hb0⟩ := two_alloc w (.cells #[v] 35) (.cells (rwC z0) 3)
  have HQ0 : Hid (QB w W v rows w.heap.size (w.heap.size + 1) z0) := ⟨k0, ⟨k1, HZL.out⟩, hb0, ⟨B, hB, HR.out.below (hb0.mono hB)⟩, Nat.le_refl _, by omega⟩
  have cW := HQ0.out.rn.cell (k := 0) (by omega)
  have fW := HQ0.out.rn.free 0
  have HSW : Hid ((rwC z0).setIfInBounds 0 (.int .i64 1) = rwC (pf 0)) := by unfold Hid; rw [HP00.out]; exact rwC_set _ _ _
  obtain ⟨W1, hW1, j0, j1, jb⟩ := two_alloc w (.cells #[v] 35) (.cells (rwC (pf 0)) 3)
  have HQ1 : Hid (QB w W1 v rows w.heap.size (w.heap.size + 1) (pf 0)) := ⟨j0, ⟨j1, by rw [HP00.out, List.length_set]; exact HZL.out⟩, jb, ⟨B, hB, HR.out.below (jb.mono hB)⟩, Nat.le_refl _, by omega⟩
  have HWW := Lib.hid hW1
  rw [hW] at cW fW
  clear hW k0 k1 hb0 HR HV hW1 j0 j1 jb
  go_enter Tryz.func27, Tryz.ntmps27
  go_wp2_with fail
  rw [HSW.out, ← HWW.out]
  clear cW fW HQ0
  go_loopw [4, 5] (fun u s wr => ∃ (i gn : Nat), i ≤ 64 ∧ s = .int .i64 i ∧ u = .slice (some ⟨gn, 0, none⟩) 256 256 ∧ Hid (QB w wr v rows w.heap.size gn (pf i))) (fun _ s _ => 64 - (intOf s).toNat)
  case atStart => exact ⟨0, _, Nat.zero_le _, rfl, rfl, HQ1⟩
  case round =>
    obtain ⟨i, gn, hi, rfl, rfl, HQ⟩ := hrel
    by_cases hli : i < 64
    · have hti : decide ((i : Int) < 64) = true := by simp only [decide_eq_true_eq]; omega
      have HS := Lib.hid (HPS.out i)
      have HWO := Lib.hid (HPW.out i)
      have hx7 : i % 8 ≤ 7 := by omega
      have hy7 : i / 8 ≤ 7 := by omega
      have HXI : Hid ((i : Int) % 8 = ((i % 8 : Nat) : Int)) := by unfold Hid; omega
      go_wp2_with fail
      refine (CellAt_yes i (by omega) _).mono ?_
      rintro e w1 ⟨rfl, hb1⟩
      rw [HXI.out]
      have HQ1 := Lib.hid (HQ.out.below hb1)
      obtain ⟨zs, HZS⟩ : ∃ zs, Hid (pf i = zs) := ⟨_, rfl⟩
      obtain ⟨zs2, HZS2⟩ : ∃ zs, Hid (pf (i + 1) = zs) := ⟨_, rfl⟩
      rw [HZS.out] at HQ1 HS HWO
      rw [HZS2.out] at HS
      clear HXI
      generalize i % 8 = x at *
      generalize i / 8 = y at *
      clear hb1 HQ
      go_wp2_with fail
      obtain ⟨W2, hW2, q0, q1, hb2⟩ := two_alloc w1 (.cells #[.int .i64 (x : Int), .int .i64 (y : Int)] 44) (.cells (rwC z0) 3)
      rw [← hW2]
      have HF0 : Hid (QF w W2 v rows w.heap.size gn w1.heap.size (w1.heap.size + 1) x y zs z0) := by
        have h := HQ1.out.below hb2
        have l1 := lt_of_block HQ1.out.er
        have l2 := lt_of_block HQ1.out.rn.1
        have l3 := HQ1.out.big.size
        exact ⟨h.er, h.rn, q0, ⟨q1, HZL.out⟩, h.big, h.rd, Nat.le_refl _, by omega, by omega, by omega, by omega⟩
      clear hW2 q0 q1 hb2 HQ1
      generalize w1.heap.size = n1 at *
      obtain ⟨h, HH⟩ : ∃ h, Hid (hasC T x y = h) := ⟨_, rfl⟩
      obtain ⟨b, HB⟩ : ∃ h, Hid (hasC T x (y + 1) = h) := ⟨_, rfl⟩
      obtain ⟨r, HR⟩ : ∃ h, Hid (hasC T (x + 1) y = h) := ⟨_, rfl⟩
      rw [HH.out, HB.out, HR.out] at HS
      obtain ⟨st, HST⟩ : ∃ st : Nat → List Int, Hid (st = stepTo h b r x zs) := ⟨_, rfl⟩
      have HSIN : Hid (∀ k, st (k + 1) = inZ h b r x (el zs k) k (st k)) := by rw [HST.out]; exact fun k => rfl
      have HF3 : Hid (QF w W2 v rows w.heap.size gn n1 (n1 + 1) x y zs (st 0)) := by rw [HST.out, HST0.out]; exact HF0.out
      rw [← HST.out] at HS
      clear HST HF0
      have HH1 : Hid (hasB (setZ rows) x y = h) := by unfold Hid; rw [HT.out, ← HH.out]; simp [hasC, hx7, hy7]
      go_loopw [10] (fun s wr => ∃ k : Nat, k ≤ 256 ∧ s = .int .i64 k ∧ Hid (QF w wr v rows w.heap.size gn n1 (n1 + 1) x y zs (st k))) (fun s _ => 256 - (intOf s).toNat)
      case atStart => exact ⟨0, Nat.zero_le _, rfl, HF3⟩
      case round =>
        obtain ⟨k, hk, rfl, HF4⟩ := hrel
        obtain ⟨f1, f2, f3⟩ := HF4.out.cells
        by_cases hlt : k < 256
        · have ht : decide ((k : Int) < 256) = true := by simp only [decide_eq_true_eq]; omega
          have hk0 : (0 : Int) ≤ (k : Int) := by omega
          have hk1 : (k : Int) < 256 := by omega
          have cr := HF4.out.rn.cell hlt
          have HN := Lib.hid (HWO.out k)
          have HIN := Lib.hid (HSIN.out k)
          obtain ⟨b1, b2, b3, b4, b5⟩ := bits_at k x hlt hx7
          have hsh := bit_shr k x (by omega) hx7
          have HB3 := Lib.hid b3; have HB5 := Lib.hid b5
          clear b1 b2 b3 b4 b5
          generalize st k = nx at *
          generalize el zs k = n at *
          by_cases hn0 : n = 0
          · have t0 : (n == 0) = true := by simp [hn0]
            have HF5 : Hid (QF w wr v rows w.heap.size gn n1 (n1 + 1) x y zs (st (k + 1))) := by rw [HIN.out, inZ, if_pos hn0]; exact HF4.out
            clear hn0 hsh
            go_wp2_with fail
            go_roundw
            case rel => exact ⟨k + 1, by omega, by go_num, HF5⟩
            case measure => simp [intOf]; omega
          · have t0 : (n == 0) = false := by rw [beq_eq_false_iff_ne]; exact hn0
            cases hb : k.testBit x
            · rw [hb] at hsh
              cases h
              · have HX : Hid (st (k + 1) = putZ nx k n) := by unfold Hid; rw [HIN.out, inZ, if_neg hn0]; simp [hb]
                clear hn0
                go_wp2_with fail
                obtain ⟨B5, hB5, hr5⟩ := HF4.out.rd
                refine (l03Has_yes v rows B5 _ hr5 (Nat.le_trans hB5 HF4.out.big.size) hok x y (by omega) (by omega)).mono ?_
                rintro e w5 ⟨rfl, hb5⟩
                rw [HH1.out]
                clear hr5
                have HF5 := Lib.hid (HF4.out.below hb5)
                clear f1 f2 f3
                obtain ⟨f1, f2, f3⟩ := HF5.out.cells
                have cx := HF5.out.rx.cell (k := k) hlt
                have fx := HF5.out.rx.free (k)
                have HE : Hid (QF w (w5.setCell ⟨n1 + 1, k, none⟩ (.int .i64 (wrap64 (el nx (k) + n)))) v rows w.heap.size gn n1 (n1 + 1) x y zs (st (k + 1))) := by rw [HX.out]; exact HF5.out.set (k) _
                generalize el nx (k) = q at *
                go_wp2_with fail
                go_roundw
                case rel => exact ⟨k + 1, by omega, by go_num, HE⟩
                case measure => simp [intOf]; omega
              · have HX0 : Hid (st (k + 1) = if r && !k.testBit (x + 1) then putZ (if b then putZ nx (k ||| 2 ^ x) n else nx) (k ||| 2 ^ (x + 1)) n else if b then putZ nx (k ||| 2 ^ x) n else nx) := by unfold Hid; rw [HIN.out, inZ, if_neg hn0]; simp only [hb, if_true]; rfl
                clear hn0
                go_wp2_with fail
                obtain ⟨B5, hB5, hr5⟩ := HF4.out.rd
                refine (l03Has_yes v rows B5 _ hr5 (Nat.le_trans hB5 HF4.out.big.size) hok x y (by omega) (by omega)).mono ?_
                rintro e w5 ⟨rfl, hb5⟩
                rw [HH1.out]
                clear hr5
                have HF5 := Lib.hid (HF4.out.below hb5)
                clear f1 f2 f3
                obtain ⟨f1, f2, f3⟩ := HF5.out.cells
                go_wp2_with fail
                obtain ⟨w6, hw6, hk6, hb6⟩ := one_alloc w5 (.cells #[.int .i64 (x : Int), .int .i64 ((y : Int) + 1)] 44)
                rw [← hw6]
                have HL6 := Lib.hid (lt_of_block hk6)
                have HK6 := Lib.hid hk6
                clear hw6 hk6
                have HF6 := Lib.hid (HF5.out.below hb6)
                clear f1 f2 f3
                obtain ⟨f1, f2, f3⟩ := HF6.out.cells
                have g6a : w6.cell? ⟨w5.heap.size, 0, none⟩ = some (.int .i64 (x : Int)) := by rw [blk_cell HK6.out]; rfl
                have g6b : w6.cell? ⟨w5.heap.size, 1, none⟩ = some (.int .i64 ((y : Int) + 1)) := by rw [blk_cell HK6.out]; rfl
                clear hb6
                have HY1 : Hid ((y : Int) + 1 = ((y + 1 : Nat) : Int)) := by unfold Hid; omega
                go_wp2_with fail
                by_cases hy8 : y + 1 ≤ 7
                · have hs : spotB 7 x ((y : Int) + 1) = true := (spotB_iff _ _ _).2 ⟨by omega, by omega⟩
                  refine (specCellOk_any (x : Int) ((y : Int) + 1) _).mono ?_
                  rintro e w7 ⟨rfl, hb7⟩
                  rw [hs]
                  clear g6a g6b
                  have HK7 := Lib.hid (blk_below HK6.out hb7)
                  have g7a : w7.cell? ⟨w5.heap.size, 0, none⟩ = some (.int .i64 (x : Int)) := by rw [blk_cell HK7.out]; rfl
                  have g7b : w7.cell? ⟨w5.heap.size, 1, none⟩ = some (.int .i64 ((y : Int) + 1)) := by rw [blk_cell HK7.out]; rfl
                  have HF7 := Lib.hid (HF6.out.below hb7)
                  clear f1 f2 f3
                  obtain ⟨f1, f2, f3⟩ := HF7.out.cells
                  have HB1 : Hid (hasB (setZ rows) x (y + 1) = b) := by unfold Hid; rw [HT.out, ← HB.out]; simp [hasC, hx7, hy8]
                  go_wp2_with fail
                  rw [HY1.out]
                  obtain ⟨B8, hB8, hr8⟩ := HF7.out.rd
                  refine (l03Has_yes v rows B8 _ hr8 (Nat.le_trans hB8 HF7.out.big.size) hok x (y + 1) (by omega) (by omega)).mono ?_
                  rintro e w8 ⟨rfl, hb8⟩
                  rw [HB1.out]
                  clear hr8
                  have HF8 := Lib.hid (HF7.out.below hb8)
                  clear f1 f2 f3
                  obtain ⟨f1, f2, f3⟩ := HF8.out.cells
                  clear g7a g7b
                  cases b
                  · skip
                    have HX0 : Hid (st (k + 1) = if r && !k.testBit (x + 1) then putZ nx (k ||| 2 ^ (x + 1)) n else nx) := HX0.out
                    go_wp2_with fail
                    obtain ⟨w9, hw9, hk9, hb9⟩ := one_alloc w8 (.cells #[.int .i64 ((x : Int) + 1), .int .i64 (y : Int)] 44)
                    rw [← hw9]
                    have HL9 := Lib.hid (lt_of_block hk9)
                    have HK9 := Lib.hid hk9
                    clear hw9 hk9
                    have HF9 := Lib.hid (HF8.out.below hb9)
                    clear f1 f2 f3
                    obtain ⟨f1, f2, f3⟩ := HF9.out.cells
                    have g9a : w9.cell? ⟨w8.heap.size, 0, none⟩ = some (.int .i64 ((x : Int) + 1)) := by rw [blk_cell HK9.out]; rfl
                    have g9b : w9.cell? ⟨w8.heap.size, 1, none⟩ = some (.int .i64 (y : Int)) := by rw [blk_cell HK9.out]; rfl
                    clear hb9
                    have HX1 : Hid ((x : Int) + 1 = ((x + 1 : Nat) : Int)) := by unfold Hid; omega
                    go_wp2_with fail
                    by_cases hx8 : x + 1 ≤ 7
                    · have hs2 : spotB 7 ((x : Int) + 1) y = true := (spotB_iff _ _ _).2 ⟨by omega, by omega⟩
                      refine (specCellOk_any ((x : Int) + 1) (y : Int) _).mono ?_
                      rintro e w10 ⟨rfl, hb10⟩
                      rw [hs2]
                      clear g9a g9b
                      have HK10 := Lib.hid (blk_below HK9.out hb10)
                      have g10a : w10.cell? ⟨w8.heap.size, 0, none⟩ = some (.int .i64 ((x : Int) + 1)) := by rw [blk_cell HK10.out]; rfl
                      have g10b : w10.cell? ⟨w8.heap.size, 1, none⟩ = some (.int .i64 (y : Int)) := by rw [blk_cell HK10.out]; rfl
                      have HF10 := Lib.hid (HF9.out.below hb10)
                      clear f1 f2 f3
                      obtain ⟨f1, f2, f3⟩ := HF10.out.cells
                      have HR1 : Hid (hasB (setZ rows) (x + 1) y = r) := by unfold Hid; rw [HT.out, ← HR.out]; simp [hasC, hx8, hy7]
                      go_wp2_with fail
                      rw [HX1.out]
                      obtain ⟨B11, hB11, hr11⟩ := HF10.out.rd
                      refine (l03Has_yes v rows B11 _ hr11 (Nat.le_trans hB11 HF10.out.big.size) hok (x + 1) y (by omega) (by omega)).mono ?_
                      rintro e w11 ⟨rfl, hb11⟩
                      rw [HR1.out]
                      clear hr11
                      have HF11 := Lib.hid (HF10.out.below hb11)
                      clear f1 f2 f3
                      obtain ⟨f1, f2, f3⟩ := HF11.out.cells
                      clear g10a g10b
                      cases r
                      · have HE : Hid (QF w w11 v rows w.heap.size gn n1 (n1 + 1) x y zs (st (k + 1))) := by rw [HX0.out]; exact HF11.out
                        go_wp2_with fail
                        go_roundw
                        case rel => exact ⟨k + 1, by omega, by go_num, HE⟩
                        case measure => simp [intOf]; omega
                      · obtain ⟨_, _, z3, z4, z5⟩ := bits_at k (x + 1) hlt hx8
                        cases hb2 : k.testBit (x + 1)
                        · rw [hb2] at z4 HX0
                          have z4' : (bits .and .i64 ((k : Int) / 2 ^ (x + 1)) 1 == 0) = true := by rw [show (2 : Int) ^ (x + 1) = ((2 ^ (x + 1) : Nat) : Int) by simp, z4]; rfl
                          have HZ3 := Lib.hid z3
                          have HZ5 := Lib.hid z5
                          clear z3 z4 z5
                          obtain ⟨j, HJ⟩ : ∃ j : Nat, Hid (k ||| 2 ^ (x + 1) = j) := ⟨_, rfl⟩
                          have hj2 : j < 256 := by rw [← HJ.out]; exact HZ5.out
                          have hji : bits .or .i64 (k : Int) (wrap64 (2 ^ (x + 1))) = (j : Int) := by rw [← HJ.out]; exact (by rw [shl_q _ hx8]; exact HZ3.out)
                          have hji2 : bits .or .i64 (k : Int) (IntKind.i64.wrap (2 ^ (x + 1))) = (j : Int) := by rw [IntWalk.i64_left]; exact hji
                          have hxw : IntKind.i64.wrap ((x : Int) + 1) = (x : Int) + 1 := IntWalk.i64_in _ (by omega)
                          have hj0 : (0 : Int) ≤ (j : Int) := by omega
                          have hj1 : (j : Int) < 256 := by omega
                          rw [HJ.out] at HX0
                          obtain ⟨q, HQQ⟩ : ∃ q, Hid (el nx j = q) := ⟨_, rfl⟩
                          obtain ⟨s9, HS9⟩ : ∃ s, Hid (wrap64 (q + n) = s) := ⟨_, rfl⟩
                          have hqw : wrap64 (q + n) = s9 := HS9.out
                          have hqw2 : IntKind.i64.wrap (q + n) = s9 := by rw [IntWalk.i64_left]; exact HS9.out
                          have cx := HF11.out.rx.cell (k := j) hj2
                          rw [HQQ.out] at cx
                          go_wp2_with fail
                          go_still_tail 17, (by kernel_rfl)
                          change wpList _ _ _ _ _ w11.drew
                          have HFD := Lib.hid (HF11.out.below (Below.refl w11.heap.size w11).drew)
                          have fx := HFD.out.rx.free j
                          have cx' := HFD.out.rx.cell (k := j) hj2
                          rw [HQQ.out] at cx'
                          obtain ⟨w12, HW12⟩ : ∃ W, Hid (W = w11.drew.setCell ⟨n1 + 1, j, none⟩ (.int .i64 s9)) := ⟨_, rfl⟩
                          have HF12 : Hid (QF w w12 v rows w.heap.size gn n1 (n1 + 1) x y zs (putZ nx j n)) := by
                            have h9 := HFD.out.set j (wrap64 (el nx j + n))
                            rw [HW12.out, ← HS9.out, ← HQQ.out]
                            exact h9
                          clear f1 f2 f3 cx
                          generalize w11.drew = wD at *
                          clear hqw hqw2 hji hji2 hxw
                          have HE : Hid (QF w w12 v rows w.heap.size gn n1 (n1 + 1) x y zs (st (k + 1))) := by rw [HX0.out]; exact HF12.out
                          rw [HW12.out] at HE
                          go_wp2_with fail
                          go_roundw
                          case rel => exact ⟨k + 1, by omega, by go_num, HE⟩
                          case measure => simp [intOf]; omega
                        · rw [hb2] at z4 HX0
                          have z4' : (bits .and .i64 ((k : Int) / 2 ^ (x + 1)) 1 == 0) = false := by rw [show (2 : Int) ^ (x + 1) = ((2 ^ (x + 1) : Nat) : Int) by simp, z4]; rfl
                          clear z3 z4 z5
                          have HE : Hid (QF w w11 v rows w.heap.size gn n1 (n1 + 1) x y zs (st (k + 1))) := by rw [HX0.out]; exact HF11.out
                          go_wp2_with fail
                          go_roundw
                          case rel => exact ⟨k + 1, by omega, by go_num, HE⟩
                          case measure => simp [intOf]; omega
                    · have hs2 : spotB 7 ((x : Int) + 1) y = false := by
                        cases hs : spotB 7 ((x : Int) + 1) y
                        · rfl
                        · have := (spotB_iff _ _ _).1 hs; omega
                      have hr0 : r = false := by rw [← HR.out]; simp [hasC, hx8]
                      subst hr0
                      refine (specCellOk_any ((x : Int) + 1) (y : Int) _).mono ?_
                      rintro e w10 ⟨rfl, hb10⟩
                      rw [hs2]
                      clear g9a g9b
                      have HK10 := Lib.hid (blk_below HK9.out hb10)
                      have g10a : w10.cell? ⟨w8.heap.size, 0, none⟩ = some (.int .i64 ((x : Int) + 1)) := by rw [blk_cell HK10.out]; rfl
                      have g10b : w10.cell? ⟨w8.heap.size, 1, none⟩ = some (.int .i64 (y : Int)) := by rw [blk_cell HK10.out]; rfl
                      have HF10 := Lib.hid (HF9.out.below hb10)
                      clear f1 f2 f3
                      obtain ⟨f1, f2, f3⟩ := HF10.out.cells
                      have HE : Hid (QF w w10 v rows w.heap.size gn n1 (n1 + 1) x y zs (st (k + 1))) := by rw [HX0.out]; exact HF10.out
                      go_wp2_with fail
                      go_roundw
                      case rel => exact ⟨k + 1, by omega, by go_num, HE⟩
                      case measure => simp [intOf]; omega
                  · skip
                    have HX9 : Hid (st (k + 1) = if r && !k.testBit (x + 1) then putZ (putZ nx (k ||| 2 ^ x) n) (k ||| 2 ^ (x + 1)) n else putZ nx (k ||| 2 ^ x) n) := HX0.out
                    clear HX0
                    have HX0 := HX9
                    clear HX9
                    obtain ⟨jb, HJb⟩ : ∃ jb : Nat, Hid (k ||| 2 ^ x = jb) := ⟨_, rfl⟩
                    have hj2b : jb < 256 := by rw [← HJb.out]; exact HB5.out
                    have hji : bits .or .i64 (k : Int) (wrap64 (2 ^ x)) = (jb : Int) := by rw [← HJb.out]; exact (by rw [shl_q _ hx7]; exact HB3.out)
                    have hji2 : bits .or .i64 (k : Int) (IntKind.i64.wrap (2 ^ x)) = (jb : Int) := by rw [IntWalk.i64_left]; exact hji
                    have hxw : IntKind.i64.wrap ((x : Int) + 1) = (x : Int) + 1 := IntWalk.i64_in _ (by omega)
                    have hj0b : (0 : Int) ≤ (jb : Int) := by omega
                    have hj1b : (jb : Int) < 256 := by omega
                    rw [HJb.out] at HX0
                    obtain ⟨qb, HQQb⟩ : ∃ qb, Hid (el nx jb = qb) := ⟨_, rfl⟩
                    obtain ⟨sb9, HS9b⟩ : ∃ s, Hid (wrap64 (qb + n) = s) := ⟨_, rfl⟩
                    have hqw : wrap64 (qb + n) = sb9 := HS9b.out
                    have hqw2 : IntKind.i64.wrap (qb + n) = sb9 := by rw [IntWalk.i64_left]; exact HS9b.out
                    have cx := HF8.out.rx.cell (k := jb) hj2b
                    rw [HQQb.out] at cx
                    go_wp2_with fail
                    go_still_tail 15, (by kernel_rfl)
                    change wpList _ _ _ _ _ w8.drew
                    have HFDb := Lib.hid (HF8.out.below (Below.refl w8.heap.size w8).drew)
                    have fx := HFDb.out.rx.free jb
                    have cx' := HFDb.out.rx.cell (k := jb) hj2b
                    rw [HQQb.out] at cx'
                    obtain ⟨w9, HW9⟩ : ∃ W, Hid (W = w8.drew.setCell ⟨n1 + 1, jb, none⟩ (.int .i64 sb9)) := ⟨_, rfl⟩
                    have HF9 : Hid (QF w w9 v rows w.heap.size gn n1 (n1 + 1) x y zs (putZ nx jb n)) := by
                      have h9 := HFDb.out.set jb (wrap64 (el nx jb + n))
                      rw [HW9.out, ← HS9b.out, ← HQQb.out]
                      exact h9
                    clear f1 f2 f3 cx
                    generalize w8.drew = wDb at *
                    clear hqw hqw2 hji hji2 hxw
                    go_upto_region 27 with (fail)
                    rw [← HW9.out]
                    obtain ⟨f1, f2, f3⟩ := HF9.out.cells
                    clear fx cx'
                    go_wp2_with fail
                    obtain ⟨w10, hw10, hk10, hb10⟩ := one_alloc w9 (.cells #[.int .i64 ((x : Int) + 1), .int .i64 (y : Int)] 44)
                    rw [← hw10]
                    have HL10 := Lib.hid (lt_of_block hk10)
                    have HK10 := Lib.hid hk10
                    clear hw10 hk10
                    have HF10 := Lib.hid (HF9.out.below hb10)
                    clear f1 f2 f3
                    obtain ⟨f1, f2, f3⟩ := HF10.out.cells
                    have g10a : w10.cell? ⟨w9.heap.size, 0, none⟩ = some (.int .i64 ((x : Int) + 1)) := by rw [blk_cell HK10.out]; rfl
                    have g10b : w10.cell? ⟨w9.heap.size, 1, none⟩ = some (.int .i64 (y : Int)) := by rw [blk_cell HK10.out]; rfl
                    clear hb10
                    have HX1 : Hid ((x : Int) + 1 = ((x + 1 : Nat) : Int)) := by unfold Hid; omega
                    go_wp2_with fail
                    by_cases hx8 : x + 1 ≤ 7
                    · have hs2 : spotB 7 ((x : Int) + 1) y = true := (spotB_iff _ _ _).2 ⟨by omega, by omega⟩
                      refine (specCellOk_any ((x : Int) + 1) (y : Int) _).mono ?_
                      rintro e w11 ⟨rfl, hb11⟩
                      rw [hs2]
                      clear g10a g10b
                      have HK11 := Lib.hid (blk_below HK10.out hb11)
                      have g11a : w11.cell? ⟨w9.heap.size, 0, none⟩ = some (.int .i64 ((x : Int) + 1)) := by rw [blk_cell HK11.out]; rfl
                      have g11b : w11.cell? ⟨w9.heap.size, 1, none⟩ = some (.int .i64 (y : Int)) := by rw [blk_cell HK11.out]; rfl
                      have HF11 := Lib.hid (HF10.out.below hb11)
                      clear f1 f2 f3
                      obtain ⟨f1, f2, f3⟩ := HF11.out.cells
                      have HR1 : Hid (hasB (setZ rows) (x + 1) y = r) := by unfold Hid; rw [HT.out, ← HR.out]; simp [hasC, hx8, hy7]
                      go_wp2_with fail
                      rw [HX1.out]
                      obtain ⟨B12, hB12, hr12⟩ := HF11.out.rd
                      refine (l03Has_yes v rows B12 _ hr12 (Nat.le_trans hB12 HF11.out.big.size) hok (x + 1) y (by omega) (by omega)).mono ?_
                      rintro e w12 ⟨rfl, hb12⟩
                      rw [HR1.out]
                      clear hr12
                      have HF12 := Lib.hid (HF11.out.below hb12)
                      clear f1 f2 f3
                      obtain ⟨f1, f2, f3⟩ := HF12.out.cells
                      clear g11a g11b
                      cases r
                      · have HE : Hid (QF w w12 v rows w.heap.size gn n1 (n1 + 1) x y zs (st (k + 1))) := by rw [HX0.out]; exact HF12.out
                        go_wp2_with fail
                        go_roundw
                        case rel => exact ⟨k + 1, by omega, by go_num, HE⟩
                        case measure => simp [intOf]; omega
                      · obtain ⟨_, _, z3, z4, z5⟩ := bits_at k (x + 1) hlt hx8
                        cases hb2 : k.testBit (x + 1)
                        · rw [hb2] at z4 HX0
                          have z4' : (bits .and .i64 ((k : Int) / 2 ^ (x + 1)) 1 == 0) = true := by rw [show (2 : Int) ^ (x + 1) = ((2 ^ (x + 1) : Nat) : Int) by simp, z4]; rfl
                          have HZ3 := Lib.hid z3
                          have HZ5 := Lib.hid z5
                          clear z3 z4 z5
                          obtain ⟨j, HJ⟩ : ∃ j : Nat, Hid (k ||| 2 ^ (x + 1) = j) := ⟨_, rfl⟩
                          have hj2 : j < 256 := by rw [← HJ.out]; exact HZ5.out
                          have hji : bits .or .i64 (k : Int) (wrap64 (2 ^ (x + 1))) = (j : Int) := by rw [← HJ.out]; exact (by rw [shl_q _ hx8]; exact HZ3.out)
                          have hji2 : bits .or .i64 (k : Int) (IntKind.i64.wrap (2 ^ (x + 1))) = (j : Int) := by rw [IntWalk.i64_left]; exact hji
                          have hxw : IntKind.i64.wrap ((x : Int) + 1) = (x : Int) + 1 := IntWalk.i64_in _ (by omega)
                          have hj0 : (0 : Int) ≤ (j : Int) := by omega
                          have hj1 : (j : Int) < 256 := by omega
                          rw [HJ.out] at HX0
                          obtain ⟨q, HQQ⟩ : ∃ q, Hid (el (putZ nx jb n) j = q) := ⟨_, rfl⟩
                          obtain ⟨s9, HS9⟩ : ∃ s, Hid (wrap64 (q + n) = s) := ⟨_, rfl⟩
                          have hqw : wrap64 (q + n) = s9 := HS9.out
                          have hqw2 : IntKind.i64.wrap (q + n) = s9 := by rw [IntWalk.i64_left]; exact HS9.out
                          have cx := HF12.out.rx.cell (k := j) hj2
                          rw [HQQ.out] at cx
                          go_wp2_with fail
                          go_still_tail 17, (by kernel_rfl)
                          change wpList _ _ _ _ _ w12.drew
                          have HFD := Lib.hid (HF12.out.below (Below.refl w12.heap.size w12).drew)
                          have fx := HFD.out.rx.free j
                          have cx' := HFD.out.rx.cell (k := j) hj2
                          rw [HQQ.out] at cx'
                          obtain ⟨w13, HW13⟩ : ∃ W, Hid (W = w12.drew.setCell ⟨n1 + 1, j, none⟩ (.int .i64 s9)) := ⟨_, rfl⟩
                          have HF13 : Hid (QF w w13 v rows w.heap.size gn n1 (n1 + 1) x y zs (putZ (putZ nx jb n) j n)) := by
                            have h9 := HFD.out.set j (wrap64 (el (putZ nx jb n) j + n))
                            rw [HW13.out, ← HS9.out, ← HQQ.out]
                            exact h9
                          clear f1 f2 f3 cx
                          generalize w12.drew = wD at *
                          clear hqw hqw2 hji hji2 hxw
                          have HE : Hid (QF w w13 v rows w.heap.size gn n1 (n1 + 1) x y zs (st (k + 1))) := by rw [HX0.out]; exact HF13.out
                          rw [HW13.out] at HE
                          go_wp2_with fail
                          go_roundw
                          case rel => exact ⟨k + 1, by omega, by go_num, HE⟩
                          case measure => simp [intOf]; omega
                        · rw [hb2] at z4 HX0
                          have z4' : (bits .and .i64 ((k : Int) / 2 ^ (x + 1)) 1 == 0) = false := by rw [show (2 : Int) ^ (x + 1) = ((2 ^ (x + 1) : Nat) : Int) by simp, z4]; rfl
                          clear z3 z4 z5
                          have HE : Hid (QF w w12 v rows w.heap.size gn n1 (n1 + 1) x y zs (st (k + 1))) := by rw [HX0.out]; exact HF12.out
                          go_wp2_with fail
                          go_roundw
                          case rel => exact ⟨k + 1, by omega, by go_num, HE⟩
                          case measure => simp [intOf]; omega
                    · have hs2 : spotB 7 ((x : Int) + 1) y = false := by
                        cases hs : spotB 7 ((x : Int) + 1) y
                        · rfl
                        · have := (spotB_iff _ _ _).1 hs; omega
                      have hr0 : r = false := by rw [← HR.out]; simp [hasC, hx8]
                      subst hr0
                      refine (specCellOk_any ((x : Int) + 1) (y : Int) _).mono ?_
                      rintro e w11 ⟨rfl, hb11⟩
                      rw [hs2]
                      clear g10a g10b
                      have HK11 := Lib.hid (blk_below HK10.out hb11)
                      have g11a : w11.cell? ⟨w9.heap.size, 0, none⟩ = some (.int .i64 ((x : Int) + 1)) := by rw [blk_cell HK11.out]; rfl
                      have g11b : w11.cell? ⟨w9.heap.size, 1, none⟩ = some (.int .i64 (y : Int)) := by rw [blk_cell HK11.out]; rfl
                      have HF11 := Lib.hid (HF10.out.below hb11)
                      clear f1 f2 f3
                      obtain ⟨f1, f2, f3⟩ := HF11.out.cells
                      have HE : Hid (QF w w11 v rows w.heap.size gn n1 (n1 + 1) x y zs (st (k + 1))) := by rw [HX0.out]; exact HF11.out
                      go_wp2_with fail
                      go_roundw
                      case rel => exact ⟨k + 1, by omega, by go_num, HE⟩
                      case measure => simp [intOf]; omega
                · have hs : spotB 7 x ((y : Int) + 1) = false := by
                    cases hs : spotB 7 x ((y : Int) + 1)
                    · rfl
                    · have := (spotB_iff _ _ _).1 hs; omega
                  have hb0 : b = false := by rw [← HB.out]; simp [hasC, hy8]
                  subst hb0
                  refine (specCellOk_any (x : Int) ((y : Int) + 1) _).mono ?_
                  rintro e w7 ⟨rfl, hb7⟩
                  rw [hs]
                  clear g6a g6b
                  have HK7 := Lib.hid (blk_below HK6.out hb7)
                  have g7a : w7.cell? ⟨w5.heap.size, 0, none⟩ = some (.int .i64 (x : Int)) := by rw [blk_cell HK7.out]; rfl
                  have g7b : w7.cell? ⟨w5.heap.size, 1, none⟩ = some (.int .i64 ((y : Int) + 1)) := by rw [blk_cell HK7.out]; rfl
                  have HF7 := Lib.hid (HF6.out.below hb7)
                  clear f1 f2 f3
                  obtain ⟨f1, f2, f3⟩ := HF7.out.cells
                  clear g7a g7b
                  have HX0 : Hid (st (k + 1) = if r && !k.testBit (x + 1) then putZ nx (k ||| 2 ^ (x + 1)) n else nx) := HX0.out
                  go_wp2_with fail
                  obtain ⟨w8, hw8, hk8, hb8⟩ := one_alloc w7 (.cells #[.int .i64 ((x : Int) + 1), .int .i64 (y : Int)] 44)
                  rw [← hw8]
                  have HL8 := Lib.hid (lt_of_block hk8)
                  have HK8 := Lib.hid hk8
                  clear hw8 hk8
                  have HF8 := Lib.hid (HF7.out.below hb8)
                  clear f1 f2 f3
                  obtain ⟨f1, f2, f3⟩ := HF8.out.cells
                  have g8a : w8.cell? ⟨w7.heap.size, 0, none⟩ = some (.int .i64 ((x : Int) + 1)) := by rw [blk_cell HK8.out]; rfl
                  have g8b : w8.cell? ⟨w7.heap.size, 1, none⟩ = some (.int .i64 (y : Int)) := by rw [blk_cell HK8.out]; rfl
                  clear hb8
                  have HX1 : Hid ((x : Int) + 1 = ((x + 1 : Nat) : Int)) := by unfold Hid; omega
                  go_wp2_with fail
                  by_cases hx8 : x + 1 ≤ 7
                  · have hs2 : spotB 7 ((x : Int) + 1) y = true := (spotB_iff _ _ _).2 ⟨by omega, by omega⟩
                    refine (specCellOk_any ((x : Int) + 1) (y : Int) _).mono ?_
                    rintro e w9 ⟨rfl, hb9⟩
                    rw [hs2]
                    clear g8a g8b
                    have HK9 := Lib.hid (blk_below HK8.out hb9)
                    have g9a : w9.cell? ⟨w7.heap.size, 0, none⟩ = some (.int .i64 ((x : Int) + 1)) := by rw [blk_cell HK9.out]; rfl
                    have g9b : w9.cell? ⟨w7.heap.size, 1, none⟩ = some (.int .i64 (y : Int)) := by rw [blk_cell HK9.out]; rfl
                    have HF9 := Lib.hid (HF8.out.below hb9)
                    clear f1 f2 f3
                    obtain ⟨f1, f2, f3⟩ := HF9.out.cells
                    have HR1 : Hid (hasB (setZ rows) (x + 1) y = r) := by unfold Hid; rw [HT.out, ← HR.out]; simp [hasC, hx8, hy7]
                    go_wp2_with fail
                    rw [HX1.out]
                    obtain ⟨B10, hB10, hr10⟩ := HF9.out.rd
                    refine (l03Has_yes v rows B10 _ hr10 (Nat.le_trans hB10 HF9.out.big.size) hok (x + 1) y (by omega) (by omega)).mono ?_
                    rintro e w10 ⟨rfl, hb10⟩
                    rw [HR1.out]
                    clear hr10
                    have HF10 := Lib.hid (HF9.out.below hb10)
                    clear f1 f2 f3
                    obtain ⟨f1, f2, f3⟩ := HF10.out.cells
                    clear g9a g9b
                    cases r
                    · have HE : Hid (QF w w10 v rows w.heap.size gn n1 (n1 + 1) x y zs (st (k + 1))) := by rw [HX0.out]; exact HF10.out
                      go_wp2_with fail
                      go_roundw
                      case rel => exact ⟨k + 1, by omega, by go_num, HE⟩
                      case measure => simp [intOf]; omega
                    · obtain ⟨_, _, z3, z4, z5⟩ := bits_at k (x + 1) hlt hx8
                      cases hb2 : k.testBit (x + 1)
                      · rw [hb2] at z4 HX0
                        have z4' : (bits .and .i64 ((k : Int) / 2 ^ (x + 1)) 1 == 0) = true := by rw [show (2 : Int) ^ (x + 1) = ((2 ^ (x + 1) : Nat) : Int) by simp, z4]; rfl
                        have HZ3 := Lib.hid z3
                        have HZ5 := Lib.hid z5
                        clear z3 z4 z5
                        obtain ⟨j, HJ⟩ : ∃ j : Nat, Hid (k ||| 2 ^ (x + 1) = j) := ⟨_, rfl⟩
                        have hj2 : j < 256 := by rw [← HJ.out]; exact HZ5.out
                        have hji : bits .or .i64 (k : Int) (wrap64 (2 ^ (x + 1))) = (j : Int) := by rw [← HJ.out]; exact (by rw [shl_q _ hx8]; exact HZ3.out)
                        have hji2 : bits .or .i64 (k : Int) (IntKind.i64.wrap (2 ^ (x + 1))) = (j : Int) := by rw [IntWalk.i64_left]; exact hji
                        have hxw : IntKind.i64.wrap ((x : Int) + 1) = (x : Int) + 1 := IntWalk.i64_in _ (by omega)
                        have hj0 : (0 : Int) ≤ (j : Int) := by omega
                        have hj1 : (j : Int) < 256 := by omega
                        rw [HJ.out] at HX0
                        obtain ⟨q, HQQ⟩ : ∃ q, Hid (el nx j = q) := ⟨_, rfl⟩
                        obtain ⟨s9, HS9⟩ : ∃ s, Hid (wrap64 (q + n) = s) := ⟨_, rfl⟩
                        have hqw : wrap64 (q + n) = s9 := HS9.out
                        have hqw2 : IntKind.i64.wrap (q + n) = s9 := by rw [IntWalk.i64_left]; exact HS9.out
                        have cx := HF10.out.rx.cell (k := j) hj2
                        rw [HQQ.out] at cx
                        go_wp2_with fail
                        go_still_tail 17, (by kernel_rfl)
                        change wpList _ _ _ _ _ w10.drew
                        have HFD := Lib.hid (HF10.out.below (Below.refl w10.heap.size w10).drew)
                        have fx := HFD.out.rx.free j
                        have cx' := HFD.out.rx.cell (k := j) hj2
                        rw [HQQ.out] at cx'
                        obtain ⟨w11, HW11⟩ : ∃ W, Hid (W = w10.drew.setCell ⟨n1 + 1, j, none⟩ (.int .i64 s9)) := ⟨_, rfl⟩
                        have HF11 : Hid (QF w w11 v rows w.heap.size gn n1 (n1 + 1) x y zs (putZ nx j n)) := by
                          have h9 := HFD.out.set j (wrap64 (el nx j + n))
                          rw [HW11.out, ← HS9.out, ← HQQ.out]
                          exact h9
                        clear f1 f2 f3 cx
                        generalize w10.drew = wD at *
                        clear hqw hqw2 hji hji2 hxw
                        have HE : Hid (QF w w11 v rows w.heap.size gn n1 (n1 + 1) x y zs (st (k + 1))) := by rw [HX0.out]; exact HF11.out
                        rw [HW11.out] at HE
                        go_wp2_with fail
                        go_roundw
                        case rel => exact ⟨k + 1, by omega, by go_num, HE⟩
                        case measure => simp [intOf]; omega
                      · rw [hb2] at z4 HX0
                        have z4' : (bits .and .i64 ((k : Int) / 2 ^ (x + 1)) 1 == 0) = false := by rw [show (2 : Int) ^ (x + 1) = ((2 ^ (x + 1) : Nat) : Int) by simp, z4]; rfl
                        clear z3 z4 z5
                        have HE : Hid (QF w w10 v rows w.heap.size gn n1 (n1 + 1) x y zs (st (k + 1))) := by rw [HX0.out]; exact HF10.out
                        go_wp2_with fail
                        go_roundw
                        case rel => exact ⟨k + 1, by omega, by go_num, HE⟩
                        case measure => simp [intOf]; omega
                  · have hs2 : spotB 7 ((x : Int) + 1) y = false := by
                      cases hs : spotB 7 ((x : Int) + 1) y
                      · rfl
                      · have := (spotB_iff _ _ _).1 hs; omega
                    have hr0 : r = false := by rw [← HR.out]; simp [hasC, hx8]
                    subst hr0
                    refine (specCellOk_any ((x : Int) + 1) (y : Int) _).mono ?_
                    rintro e w9 ⟨rfl, hb9⟩
                    rw [hs2]
                    clear g8a g8b
                    have HK9 := Lib.hid (blk_below HK8.out hb9)
                    have g9a : w9.cell? ⟨w7.heap.size, 0, none⟩ = some (.int .i64 ((x : Int) + 1)) := by rw [blk_cell HK9.out]; rfl
                    have g9b : w9.cell? ⟨w7.heap.size, 1, none⟩ = some (.int .i64 (y : Int)) := by rw [blk_cell HK9.out]; rfl
                    have HF9 := Lib.hid (HF8.out.below hb9)
                    clear f1 f2 f3
                    obtain ⟨f1, f2, f3⟩ := HF9.out.cells
                    have HE : Hid (QF w w9 v rows w.heap.size gn n1 (n1 + 1) x y zs (st (k + 1))) := by rw [HX0.out]; exact HF9.out
                    go_wp2_with fail
                    go_roundw
                    case rel => exact ⟨k + 1, by omega, by go_num, HE⟩
                    case measure => simp [intOf]; omega
            · rw [hb] at hsh
              have HFR : Hid (wrap64 ((k : Int) - wrap64 (2 ^ x)) = ((k - 2 ^ x : Nat) : Int)) := by
                unfold Hid
                rw [shl_q x hx7]
                have h1 : 2 ^ x ≤ k := Nat.ge_two_pow_of_testBit hb
                generalize (2 ^ x : Nat) = p at *
                unfold wrap64; omega
              cases h
              · have HX : Hid (st (k + 1) = nx) := by unfold Hid; rw [HIN.out, inZ, if_neg hn0]; simp [hb]
                clear hn0
                go_wp2_with fail
                rw [HFR.out]
                obtain ⟨B5, hB5, hr5⟩ := HF4.out.rd
                refine (l03Has_yes v rows B5 _ hr5 (Nat.le_trans hB5 HF4.out.big.size) hok x y (by omega) (by omega)).mono ?_
                rintro e w5 ⟨rfl, hb5⟩
                rw [HH1.out]
                clear hr5
                have HF5 := Lib.hid (HF4.out.below hb5)
                clear f1 f2 f3
                obtain ⟨f1, f2, f3⟩ := HF5.out.cells
                have HE : Hid (QF w w5 v rows w.heap.size gn n1 (n1 + 1) x y zs (st (k + 1))) := by rw [HX.out]; exact HF5.out
                go_wp2_with fail
                go_roundw
                case rel => exact ⟨k + 1, by omega, by go_num, HE⟩
                case measure => simp [intOf]; omega
              · have HX : Hid (st (k + 1) = putZ nx (k - 2 ^ x) n) := by unfold Hid; rw [HIN.out, inZ, if_neg hn0]; simp [hb]
                clear hn0
                go_wp2_with fail
                rw [HFR.out]
                obtain ⟨B5, hB5, hr5⟩ := HF4.out.rd
                refine (l03Has_yes v rows B5 _ hr5 (Nat.le_trans hB5 HF4.out.big.size) hok x y (by omega) (by omega)).mono ?_
                rintro e w5 ⟨rfl, hb5⟩
                rw [HH1.out]
                clear hr5
                have HF5 := Lib.hid (HF4.out.below hb5)
                clear f1 f2 f3
                obtain ⟨f1, f2, f3⟩ := HF5.out.cells
                obtain ⟨j, HJ⟩ : ∃ j : Nat, Hid (k - 2 ^ x = j) := ⟨_, rfl⟩
                have hj2 : j < 256 := by rw [← HJ.out]; exact Nat.lt_of_le_of_lt (Nat.sub_le _ _) hlt
                rw [HJ.out] at HX ⊢
                clear HFR
                have hj0 : (0 : Int) ≤ (j : Int) := by omega
                have hj1 : (j : Int) < 256 := by omega
                have cx := HF5.out.rx.cell (k := j) hj2
                have fx := HF5.out.rx.free (j)
                have HE : Hid (QF w (w5.setCell ⟨n1 + 1, j, none⟩ (.int .i64 (wrap64 (el nx (j) + n)))) v rows w.heap.size gn n1 (n1 + 1) x y zs (st (k + 1))) := by rw [HX.out]; exact HF5.out.set (j) _
                generalize el nx (j) = q at *
                go_wp2_with fail
                go_roundw
                case rel => exact ⟨k + 1, by omega, by go_num, HE⟩
                case measure => simp [intOf]; omega
        · have ht : decide ((k : Int) < 256) = false := by simp only [decide_eq_false_iff_not]; omega
          obtain rfl : k = 256 := by omega
          rw [← HS.out] at HF4
          have HFN : Hid (QB w wr v rows w.heap.size (n1 + 1) (pf (i + 1))) := by
            have h := HF4.out
            rw [HZS2.out]
            exact ⟨h.er, h.rx, h.big, h.rd, h.l1, h.lx⟩
          go_wp2_with fail
          go_roundw
          case rel => exact ⟨i + 1, _, by omega, by go_num, rfl, HFN⟩
          case measure => simp [intOf]; omega
    · have hti : decide ((i : Int) < 64) = false := by simp only [decide_eq_false_iff_not]; omega
      obtain rfl : i = 64 := by omega
      have cq := HQ.out.rn.cell (k := 0) (by omega)
      have HF : Hid (el (pf 64) 0 = res) := (HFZ.out _ rfl).symm
      go_wp2_with fail
      go_ret
      exact ⟨ret_int HF.out, HQ.out.big⟩
end Go.Proofs.YtehnbalbpfmijaaGreatDoor

namespace Go.Proofs.YtehnbalbpfmijaaGreatDoor
open Go.RowKit
set_option linter.unusedVariables false

/-- The rows without a domino across. -/
def offDom (zs : List Int) (x y : Nat) : List Int := offRow (offRow zs x y) (x + 1) y
set_option maxRecDepth 100000 in
set_option maxHeartbeats 1000000 in
theorem CountWith_yes (v : Value) (zs : List Int) (B : Nat) (w : World) (h : RdI w B v zs) (hB : B ≤ w.heap.size) (hok : regOkB zs = true) (x y : Nat) (hx : x ≤ 6) (hy : y ≤ 7) (hok1 : regOkB (offRow zs x y) = true) (hok2 : regOkB (offDom zs x y) = true) (ha : hasB (setZ zs) x y = true) (hb : hasB (setZ zs) (x + 1) y = true) :
    Calls Tryz.prog 58 #[.agg #[v], triV (x : Int) (y : Int) false] w fun e w' => e = .returned (.int .i64 (profZ (setZ (offDom zs x y)))) ∧ Below w.heap.size w w' := by
  have hdm : domB (x : Int) (y : Int) false = true := (domB_iff _ _ _).2 ⟨by omega, by simp; omega⟩
  have hsx : sndX (x : Int) false = ((x + 1 : Nat) : Int) := by unfold sndX; simp; unfold wrap64; omega
  have hsy : sndY (y : Int) false = (y : Int) := by unfold sndY; simp
  have HDO := Lib.hid (fun V => specDominoOk_any (x : Int) (y : Int) false V)
  have HCU := Lib.hid (fun V => CellsUnder_yes (x : Int) (y : Int) false V hdm)
  rw [hsx, hsy] at HCU
  rw [hdm] at HDO
  have HH1 := Lib.hid (fun V (hV : Below w.heap.size w V) => HasCell_yes v zs B V (h.below (hV.mono hB)) (Nat.le_trans hB hV.size) hok x y (by omega) hy)
  have HH2 := Lib.hid (fun V (hV : Below w.heap.size w V) => HasCell_yes v zs B V (h.below (hV.mono hB)) (Nat.le_trans hB hV.size) hok (x + 1) y (by omega) hy)
  rw [ha] at HH1
  rw [hb] at HH2
  have HW1 := Lib.hid (fun V (hV : Below w.heap.size w V) => WithCell_off v zs B V (h.below (hV.mono hB)) (Nat.le_trans hB hV.size) hok x y (by omega) hy)
  have HW2 := Lib.hid (fun u V (hu : RdI V V.heap.size u (offRow zs x y)) => WithCell_off u (offRow zs x y) V.heap.size V hu (Nat.le_refl _) hok1 (x + 1) y (by omega) hy)
  have HOD : Hid (offRow (offRow zs x y) (x + 1) y = offDom zs x y) := rfl
  rw [HOD.out] at HW2
  have HLC := Lib.hid (fun u V (hu : RdI V V.heap.size u (offDom zs x y)) => l07Count_yes u (offDom zs x y) V.heap.size V hu (Nat.le_refl _) hok2)
  obtain ⟨A, c, rfl, g1, g2, _⟩ := h
  unfold maxLen at g2
  clear hdm hsx hsy hok hok1 hok2 ha hb HOD
  generalize profZ (setZ (offDom zs x y)) = p at *
  generalize offDom zs x y = zs2 at *
  generalize offRow zs x y = zs1 at *
  obtain ⟨X, HX⟩ : ∃ X : Int, Hid ((x : Int) = X) := ⟨_, rfl⟩
  obtain ⟨X1, HX1⟩ : ∃ X1 : Int, Hid (((x + 1 : Nat) : Int) = X1) := ⟨_, rfl⟩
  obtain ⟨Y, HY⟩ : ∃ Y : Int, Hid ((y : Int) = Y) := ⟨_, rfl⟩
  rw [HX.out, HY.out] at HDO HCU HH1 HW1 ⊢
  rw [HX1.out] at HCU
  rw [HX1.out, HY.out] at HH2 HW2
  obtain ⟨W, hW, k0, k1, hb0⟩ := two_alloc w (.cells #[.slice A zs.length c] 35) (triO X Y false 51)
  have HK0 := Lib.hid k0; have HK1 := Lib.hid k1
  have HB0 := Lib.hid hb0
  have c0 : W.cell? ⟨w.heap.size, 0, none⟩ = some (.slice A zs.length c) := by rw [blk_cell k0]; rfl
  have c1 : W.cell? ⟨w.heap.size + 1, 0, none⟩ = some (.int .i64 X) := by rw [blk_cell k1]; rfl
  have c2 : W.cell? ⟨w.heap.size + 1, 1, none⟩ = some (.int .i64 Y) := by rw [blk_cell k1]; rfl
  have c3 : W.cell? ⟨w.heap.size + 1, 2, none⟩ = some (.bool false) := by rw [blk_cell k1]; rfl
  go_enter Tryz.func58, Tryz.ntmps58
  go_upto_region 1 with (fail)
  rw [← hW]
  clear hW k0 k1 hb0
  go_wp2_with fail
  refine (HDO.out W).mono ?_
  rintro e w1 ⟨rfl, hb1⟩
  have HB1 := Lib.hid (HB0.out.trans (hb1.mono HB0.out.size))
  have HK01 := Lib.hid (blk_below HK0.out hb1); have HK11 := Lib.hid (blk_below HK1.out hb1)
  have d1 : w1.cell? ⟨w.heap.size + 1, 0, none⟩ = some (.int .i64 X) := by rw [blk_cell HK11.out]; rfl
  have d2 : w1.cell? ⟨w.heap.size + 1, 1, none⟩ = some (.int .i64 Y) := by rw [blk_cell HK11.out]; rfl
  have d3 : w1.cell? ⟨w.heap.size + 1, 2, none⟩ = some (.bool false) := by rw [blk_cell HK11.out]; rfl
  clear hb1 c0 c1 c2 c3
  go_wp2_with fail
  refine (HCU.out w1).mono ?_
  rintro e w2 ⟨rfl, hb2⟩
  have HB2 := Lib.hid (HB1.out.trans (hb2.mono HB1.out.size))
  have HK02 := Lib.hid (blk_below HK01.out hb2)
  obtain ⟨V2, hV2, p1, p2, hbv2⟩ := two_alloc w2 (.cells #[.int .i64 X, .int .i64 Y] 44) (.cells #[.int .i64 X1, .int .i64 Y] 44)
  have HBV2 := Lib.hid (HB2.out.trans (hbv2.mono HB2.out.size))
  have HKV2 := Lib.hid (blk_below HK02.out hbv2)
  have HP1 := Lib.hid p1; have HP2 := Lib.hid p2
  have e0 : V2.cell? ⟨w.heap.size, 0, none⟩ = some (.slice A zs.length c) := by rw [blk_cell HKV2.out]; rfl
  have e1 : V2.cell? ⟨w2.heap.size, 0, none⟩ = some (.int .i64 X) := by rw [blk_cell p1]; rfl
  have e2 : V2.cell? ⟨w2.heap.size, 1, none⟩ = some (.int .i64 Y) := by rw [blk_cell p1]; rfl
  have HV2 := Lib.hid hV2
  rw [hV2] at e0 e1 e2
  clear hV2 p1 p2 hbv2 hb2 d1 d2 d3
  go_wp2_with fail
  rw [← HV2.out]
  clear e0 e1 e2 HV2
  refine (HH1.out V2 HBV2.out).mono ?_
  rintro e w3 ⟨rfl, hb3⟩
  have HB3 := Lib.hid (HBV2.out.trans (hb3.mono HBV2.out.size))
  have HK3 := Lib.hid (blk_below HKV2.out hb3)
  have HP13 := Lib.hid (blk_below HP1.out hb3); have HP23 := Lib.hid (blk_below HP2.out hb3)
  have e0 : w3.cell? ⟨w.heap.size, 0, none⟩ = some (.slice A zs.length c) := by rw [blk_cell HK3.out]; rfl
  have e1 : w3.cell? ⟨w2.heap.size + 1, 0, none⟩ = some (.int .i64 X1) := by rw [blk_cell HP23.out]; rfl
  have e2 : w3.cell? ⟨w2.heap.size + 1, 1, none⟩ = some (.int .i64 Y) := by rw [blk_cell HP23.out]; rfl
  clear hb3
  go_wp2_with fail
  refine (HH2.out w3 HB3.out).mono ?_
  rintro e w4 ⟨rfl, hb4⟩
  have HB4 := Lib.hid (HB3.out.trans (hb4.mono HB3.out.size))
  have HK4 := Lib.hid (blk_below HK3.out hb4)
  have HP14 := Lib.hid (blk_below HP13.out hb4); have HP24 := Lib.hid (blk_below HP23.out hb4)
  clear hb4 e0 e1 e2
  have e0 : w4.cell? ⟨w.heap.size, 0, none⟩ = some (.slice A zs.length c) := by rw [blk_cell HK4.out]; rfl
  have e1 : w4.cell? ⟨w2.heap.size, 0, none⟩ = some (.int .i64 X) := by rw [blk_cell HP14.out]; rfl
  have e2 : w4.cell? ⟨w2.heap.size, 1, none⟩ = some (.int .i64 Y) := by rw [blk_cell HP14.out]; rfl
  go_wp2_with fail
  refine (HW1.out w4 HB4.out).mono ?_
  rintro e w5 ⟨u5, rfl, ho5, hb5⟩
  have hr5 := ho5.rd
  clear ho5
  have HB5 := Lib.hid (HB4.out.trans (hb5.mono HB4.out.size))
  have HP25 := Lib.hid (blk_below HP24.out hb5)
  obtain ⟨V6, hV6, k6, hb6⟩ := one_alloc w5 (.cells #[u5] 35)
  have HB6 := Lib.hid (HB5.out.trans (hb6.mono HB5.out.size))
  have HP26 := Lib.hid (blk_below HP25.out hb6)
  have HR6 := Lib.hid ((hr5.below hb6).more hb6.size)
  have m0 : V6.cell? ⟨w5.heap.size, 0, none⟩ = some u5 := by rw [blk_cell k6]; rfl
  have m1 : V6.cell? ⟨w2.heap.size + 1, 0, none⟩ = some (.int .i64 X1) := by rw [blk_cell HP26.out]; rfl
  have m2 : V6.cell? ⟨w2.heap.size + 1, 1, none⟩ = some (.int .i64 Y) := by rw [blk_cell HP26.out]; rfl
  have HV6 := Lib.hid hV6
  rw [hV6] at m0 m1 m2
  obtain ⟨A5, c5, rfl, _, _, _⟩ := hr5
  clear hV6 k6 hb6 hb5 e0 e1 e2
  go_wp2_with fail
  rw [← HV6.out]
  clear m0 m1 m2 HV6
  refine (HW2.out _ V6 HR6.out).mono ?_
  rintro e w7 ⟨u7, rfl, ho7, hb7⟩
  have hr7 := ho7.rd
  clear ho7
  have HB7 := Lib.hid (HB6.out.trans (hb7.mono HB6.out.size))
  obtain ⟨V8, hV8, k8, hb8⟩ := one_alloc w7 (.cells #[u7] 35)
  have HB8 := Lib.hid (HB7.out.trans (hb8.mono HB7.out.size))
  have HR8 := Lib.hid ((hr7.below hb8).more hb8.size)
  have m0 : V8.cell? ⟨w7.heap.size, 0, none⟩ = some u7 := by rw [blk_cell k8]; rfl
  have HV8 := Lib.hid hV8
  rw [hV8] at m0
  obtain ⟨A7, c7, rfl, _, _, _⟩ := hr7
  clear hV8 k8 hb8 hb7
  go_wp2_with fail
  rw [← HV8.out]
  clear m0 HV8
  refine (HLC.out _ V8 HR8.out).mono ?_
  rintro e w9 ⟨rfl, hb9⟩
  have HB9 := Lib.hid (HB8.out.trans (hb9.mono HB8.out.size))
  clear hb9
  go_wp2_with fail
  go_ret
  exact ⟨rfl, HB9.out⟩
end Go.Proofs.YtehnbalbpfmijaaGreatDoor

namespace Go.Proofs.YtehnbalbpfmijaaGreatDoor
open Go.RowKit
set_option linter.unusedVariables false

def NN (zs : List Int) : Prop := ∀ x ∈ zs, 0 ≤ x
theorem NN.atk {zs : List Int} (h : NN zs) (k : Nat) : 0 ≤ el zs k := by
  by_cases hk : k < zs.length
  · rw [el_get _ _ hk]; exact h _ (List.getElem_mem _)
  · unfold el; simp [hk]
theorem NN.sum {zs : List Int} (h : NN zs) : 0 ≤ zs.sum := by
  induction zs with
  | nil => simp
  | cons z zs ih =>
    have h1 := h z (by simp)
    have h2 := ih fun x hx => h x (by simp [hx])
    simp only [List.sum_cons]; omega
theorem NN.le {zs : List Int} (h : NN zs) (k : Nat) : el zs k ≤ zs.sum := by
  induction zs generalizing k with
  | nil => simp [el]
  | cons z zs ih =>
    have h1 := h z (by simp)
    have h2 : NN zs := fun x hx => h x (by simp [hx])
    have h3 := h2.sum
    simp only [List.sum_cons]
    cases k with
    | zero => simp [el]; omega
    | succ k => have := ih h2 k; simp [el] at this ⊢; omega
theorem sum_set (zs : List Int) (j : Nat) (z : Int) (hj : j < zs.length) : (zs.set j z).sum = zs.sum - el zs j + z := by
  induction zs generalizing j with
  | nil => simp at hj
  | cons y ys ih =>
    cases j with
    | zero => simp [el]; omega
    | succ j =>
      have := ih j (by simpa using hj)
      simp [el] at this ⊢; omega
theorem NN.put {nx : List Int} {j : Nat} {n : Int} (h : NN nx) (hn : 0 ≤ n) (hs : nx.sum + n ≤ 1099511627776) : NN (putZ nx j n) ∧ (putZ nx j n).sum ≤ nx.sum + n := by
  have h1 := h.atk j
  have h2 := h.le j
  have hw : wrap64 (el nx j + n) = el nx j + n := by unfold wrap64; omega
  unfold putZ
  rw [hw]
  refine ⟨fun x hx => ?_, ?_⟩
  · rcases List.mem_or_eq_of_mem_set hx with hx | hx
    · exact h x hx
    · omega
  · by_cases hj : j < nx.length
    · rw [sum_set _ _ _ hj]; omega
    · rw [List.set_eq_of_length_le (by omega)]; omega
def cF (h : Bool) : Int := if h then 2 else 1
theorem NN.in_ {h b r : Bool} {x k : Nat} {n : Int} {nx : List Int} (hx : NN nx) (hn : 0 ≤ n) (hs : nx.sum + 2 * n ≤ 1099511627776) : NN (inZ h b r x n k nx) ∧ (inZ h b r x n k nx).sum ≤ nx.sum + cF h * n := by
  have p1 := fun j => hx.put (j := j) hn (by omega)
  unfold inZ cF
  by_cases h0 : n = 0
  · rw [if_pos h0]; refine ⟨hx, ?_⟩; subst h0; simp
  · rw [if_neg h0]
    cases h
    · simp only [Bool.false_eq_true, if_false]
      split
      · exact ⟨hx, by omega⟩
      · have := p1 k; exact ⟨this.1, by have := this.2; omega⟩
    · simp only [if_true]
      split
      · have := p1 (k - 2 ^ x); exact ⟨this.1, by have := this.2; omega⟩
      · split
        · cases b
          · have := p1 (k ||| 2 ^ (x + 1)); simp only [Bool.false_eq_true, if_false]; exact ⟨this.1, by have := this.2; omega⟩
          · have h1 := p1 (k ||| 2 ^ x)
            have h2 := h1.1.put (j := k ||| 2 ^ (x + 1)) hn (by have := h1.2; omega)
            simp only [if_true]
            exact ⟨h2.1, by have := h1.2; have := h2.2; omega⟩
        · cases b
          · simp only [Bool.false_eq_true, if_false]; exact ⟨hx, by omega⟩
          · have := p1 (k ||| 2 ^ x); simp only [if_true]; exact ⟨this.1, by have := this.2; omega⟩
theorem sum_take (zs : List Int) : ∀ k, (zs.take (k + 1)).sum = (zs.take k).sum + el zs k := by
  induction zs with
  | nil => intro k; simp [el]
  | cons z zs ih =>
    intro k
    cases k with
    | zero => simp [el]
    | succ k => have := ih k; simp [el] at this ⊢; omega
theorem sum_take_le {zs : List Int} (h : NN zs) (k : Nat) : (zs.take k).sum ≤ zs.sum := by
  have h1 : zs.sum = (zs.take k).sum + (zs.drop k).sum := by rw [← List.sum_append, List.take_append_drop]
  have h2 : NN (zs.drop k) := fun x hx => h x (List.mem_of_mem_drop hx)
  have := h2.sum
  omega
theorem zeros_nn : NN zeros := fun x hx => by rw [zeros] at hx; have := List.eq_of_mem_replicate hx; omega
theorem zeros_sum : zeros.sum = 0 := by
  have : ∀ n, (List.replicate n (0 : Int)).sum = 0 := fun n => by induction n with
    | zero => rfl
    | succ n ih => rw [List.replicate_succ, List.sum_cons, ih]; rfl
  exact this 256
theorem NN.step (h b r : Bool) (x : Nat) {zs : List Int} (hz : NN zs) (hs : zs.sum ≤ 274877906944) : ∀ k, NN (stepTo h b r x zs k) ∧ (stepTo h b r x zs k).sum ≤ cF h * (zs.take k).sum
  | 0 => ⟨zeros_nn, by rw [stepTo, zeros_sum]; simp⟩
  | k + 1 => by
    obtain ⟨h1, h2⟩ := NN.step h b r x hz hs k
    have h3 := sum_take zs k
    have h4 := sum_take_le hz (k + 1)
    have h5 := hz.atk k
    have hc : cF h * (zs.take k).sum ≤ 2 * (zs.take k).sum := by
      have h9 : 0 ≤ (zs.take k).sum := NN.sum fun x hx => hz x (List.mem_of_mem_take hx)
      cases h <;> simp [cF] <;> omega
    obtain ⟨h6, h7⟩ := h1.in_ (h := h) (b := b) (r := r) (x := x) (k := k) h5 (by omega)
    refine ⟨h6, Int.le_trans h7 ?_⟩
    rw [h3, Int.mul_add]
    omega
/-- How many of the first cells a set has. -/
def nCell (T : Nat) : Nat → Nat
  | 0 => 0
  | i + 1 => nCell T i + if hasC T (i % 8) (i / 8) then 1 else 0
theorem NN.prof (T : Nat) : ∀ i, nCell T i ≤ 37 → NN (profTo T i) ∧ (profTo T i).sum ≤ 2 ^ nCell T i
  | 0, _ => by
    refine ⟨fun x hx => ?_, ?_⟩
    · rw [profTo] at hx
      rcases List.mem_or_eq_of_mem_set hx with hx | hx
      · exact zeros_nn x hx
      · omega
    · rw [profTo, sum_set _ _ _ (by rw [zeros_len]; omega), zeros_sum, zeros_el]; simp [nCell]
  | i + 1, hc => by
    have hc2 : nCell T i ≤ 37 := by rw [nCell] at hc; omega
    obtain ⟨h1, h2⟩ := NN.prof T i hc2
    have hp : (2 : Int) ^ nCell T i ≤ 2 ^ 37 := by
      have := Nat.pow_le_pow_right (n := 2) (by omega) hc2
      exact_mod_cast this
    obtain ⟨h3, h4⟩ := NN.step (hasC T (i % 8) (i / 8)) (hasC T (i % 8) (i / 8 + 1)) (hasC T (i % 8 + 1) (i / 8)) (i % 8) h1 (by omega) 256
    refine ⟨h3, ?_⟩
    rw [List.take_of_length_le (by rw [profTo_len]; omega)] at h4
    rw [profTo]
    refine Int.le_trans h4 ?_
    rw [nCell]
    cases hasC T (i % 8) (i / 8)
    · simp [cF]; exact h2
    · simp only [cF, if_true, Int.pow_succ]; omega
theorem prof_bd (T : Nat) (h : nCell T 64 ≤ 37) : 0 ≤ profZ T ∧ profZ T ≤ 2 ^ nCell T 64 := by
  obtain ⟨h1, h2⟩ := NN.prof T 64 h
  exact ⟨h1.atk 0, Int.le_trans (h1.le 0) h2⟩
end Go.Proofs.YtehnbalbpfmijaaGreatDoor

namespace Go.Proofs.YtehnbalbpfmijaaGreatDoor
open Go.RowKit
set_option linter.unusedVariables false

theorem NN.put_el {nx : List Int} {j : Nat} {n : Int} (h : NN nx) (hn : 0 ≤ n) (hs : nx.sum + n ≤ 1099511627776) (i : Nat) : el nx i ≤ el (putZ nx j n) i ∧ (j < nx.length → i = j → n ≤ el (putZ nx j n) i) := by
  have h1 := h.atk j
  have h2 := h.le j
  have hw : wrap64 (el nx j + n) = el nx j + n := by unfold wrap64; omega
  unfold putZ
  rw [hw, el_set']
  by_cases e : i = j ∧ j < nx.length
  · rw [if_pos e, e.1]
    exact ⟨by omega, fun _ _ => by omega⟩
  · rw [if_neg e]
    exact ⟨Int.le_refl _, fun h1 h2 => absurd ⟨h2, h1⟩ e⟩
theorem NN.in_el {h b r : Bool} {x k : Nat} {n : Int} {nx : List Int} (hx : NN nx) (hn : 0 ≤ n) (hs : nx.sum + 2 * n ≤ 1099511627776) (i : Nat) : el nx i ≤ el (inZ h b r x n k nx) i := by
  have p1 := fun j => hx.put (j := j) hn (by omega)
  have p2 := fun j => (hx.put_el (j := j) hn (by omega) i).1
  unfold inZ
  by_cases h0 : n = 0
  · rw [if_pos h0]; exact Int.le_refl _
  · rw [if_neg h0]
    split
    · split
      · exact p2 _
      · split
        · split
          · refine Int.le_trans (p2 (k ||| 2 ^ x)) ?_
            exact ((p1 (k ||| 2 ^ x)).1.put_el hn (by have := (p1 (k ||| 2 ^ x)).2; omega) i).1
          · exact p2 _
        · split
          · exact p2 _
          · exact Int.le_refl _
    · split
      · exact Int.le_refl _
      · exact p2 _
/-- Where a state goes if a domino across is laid wherever one can be. -/
def nxtS (h r : Bool) (x k : Nat) : Option Nat :=
  if h then (if k.testBit x then some (k - 2 ^ x) else if r && !k.testBit (x + 1) then some (k ||| 2 ^ (x + 1)) else none)
  else if k.testBit x then none else some k
theorem NN.in_at {h b r : Bool} {x k s : Nat} {n : Int} {nx : List Int} (hx : NN nx) (hn : 0 < n) (hs : nx.sum + 2 * n ≤ 1099511627776) (hk : nxtS h r x k = some s) (hl : s < nx.length) : n ≤ el (inZ h b r x n k nx) s := by
  have p1 := fun j => hx.put (j := j) (n := n) (by omega) (by omega)
  have p2 := fun j => (hx.put_el (j := j) (n := n) (by omega) (by omega) s).2
  unfold nxtS at hk
  unfold inZ
  rw [if_neg (by omega)]
  cases h
  · simp only [Bool.false_eq_true, if_false] at hk ⊢
    cases hb : k.testBit x
    · rw [hb] at hk
      simp only [Bool.false_eq_true, if_false, Option.some.injEq] at hk ⊢
      exact p2 k (by rw [hk]; exact hl) hk.symm
    · rw [hb] at hk; simp at hk
  · simp only [if_true] at hk ⊢
    cases hb : k.testBit x
    · rw [hb] at hk
      simp only [Bool.false_eq_true, if_false] at hk ⊢
      cases hr : (r && !k.testBit (x + 1))
      · rw [hr] at hk; simp at hk
      · rw [hr] at hk
        simp only [if_true, Option.some.injEq] at hk ⊢
        split
        · refine ((p1 (k ||| 2 ^ x)).1.put_el (n := n) (by omega) (by have := (p1 (k ||| 2 ^ x)).2; omega) s).2 (by rw [putZ_len, hk]; exact hl) hk.symm
        · exact p2 _ (by rw [hk]; exact hl) hk.symm
    · rw [hb] at hk
      simp only [if_true, Option.some.injEq] at hk ⊢
      exact p2 _ (by rw [hk]; exact hl) hk.symm
theorem NN.step_at (h b r : Bool) (x : Nat) {zs : List Int} (hz : NN zs) (hs : zs.sum ≤ 274877906944) {k s : Nat} (hk : nxtS h r x k = some s) (hl : s < 256) (hp : 0 < el zs k) : ∀ m, k < m → el zs k ≤ el (stepTo h b r x zs m) s
  | 0, h0 => by omega
  | m + 1, hm => by
    obtain ⟨h1, h2⟩ := NN.step h b r x hz hs m
    have h4 := sum_take_le hz (m + 1)
    have h3 := sum_take zs m
    have h5 := hz.atk m
    have h9 : 0 ≤ (zs.take m).sum := NN.sum fun x hx => hz x (List.mem_of_mem_take hx)
    have hc : cF h * (zs.take m).sum ≤ 2 * (zs.take m).sum := by cases h <;> simp [cF] <;> omega
    rw [stepTo]
    rcases Nat.lt_succ_iff_lt_or_eq.1 hm with hm | rfl
    · exact Int.le_trans (NN.step_at h b r x hz hs hk hl hp m hm) (h1.in_el h5 (by omega) s)
    · exact h1.in_at hp (by omega) hk (by rw [stepTo_len]; exact hl)
/-- The states on the way, from a cell on. -/
def wayB (T : Nat) : Nat → Nat → Nat → Bool
  | 0, i, s => decide (i = 64) && decide (s = 0)
  | f + 1, i, s => match nxtS (hasC T (i % 8) (i / 8)) (hasC T (i % 8 + 1) (i / 8)) (i % 8) s with
    | none => false
    | some s' => decide (s' < 256) && wayB T f (i + 1) s'
theorem way_pos (T : Nat) (hT : nCell T 64 ≤ 37) : ∀ (f i s : Nat), wayB T f i s = true → i + f = 64 → 0 < el (profTo T i) s → 0 < profZ T
  | 0, i, s, h, hf, hp => by
    rw [wayB, Bool.and_eq_true, decide_eq_true_eq, decide_eq_true_eq] at h
    obtain ⟨rfl, rfl⟩ := h
    exact hp
  | f + 1, i, s, h, hf, hp => by
    have hmono : ∀ d, nCell T i ≤ nCell T (i + d) := fun d => by
      induction d with
      | zero => exact Nat.le_refl _
      | succ d ih => rw [← Nat.add_assoc, nCell]; omega
    have hc : nCell T i ≤ 37 := by
      have := hmono (f + 1)
      rw [hf] at this; omega
    obtain ⟨h1, h2⟩ := NN.prof T i hc
    have hpw : (2 : Int) ^ nCell T i ≤ 2 ^ 37 := by
      have := Nat.pow_le_pow_right (n := 2) (by omega) hc
      exact_mod_cast this
    rw [wayB] at h
    split at h
    · simp at h
    · rename_i s' hs'
      rw [Bool.and_eq_true, decide_eq_true_eq] at h
      have hst := NN.step_at _ (hasC T (i % 8) (i / 8 + 1)) _ _ h1 (by omega) hs' h.1 hp 256 (by
        rcases Nat.lt_or_ge s 256 with g | g
        · exact g
        · rw [show el (profTo T i) s = 0 by unfold el; rw [List.getD_eq_getElem?_getD, List.getElem?_eq_none (by rw [profTo_len]; exact g)]; rfl] at hp
          omega)
      refine way_pos T hT f (i + 1) s' h.2 (by omega) ?_
      rw [profTo]
      omega
theorem way_some {T : Nat} (hT : (decide (nCell T 64 ≤ 37) && wayB T 64 0 0) = true) : profZ T ≠ 0 := by
  rw [Bool.and_eq_true, decide_eq_true_eq] at hT
  have := way_pos T hT.1 64 0 0 hT.2 rfl (by show 0 < el (zeros.set 0 1) 0; decide +kernel)
  omega
end Go.Proofs.YtehnbalbpfmijaaGreatDoor

namespace Go.Proofs.YtehnbalbpfmijaaGreatDoor
open Go.RowKit

/-! ### The plain functions -/
def lkAt (w h x y : Int) : List Lk := (if x + 1 < w then [(x, y, false)] else []) ++ (if y + 1 < h then [(x, y, true)] else [])
def lkRow (w h y : Int) : Nat → List Lk | 0 => [] | x + 1 => lkRow w h y x ++ lkAt w h x y
def lkAll (w h : Int) : Nat → List Lk | 0 => [] | y + 1 => lkAll w h y ++ lkRow w h y w.toNat
def lkFlat (w h : Nat) : Nat → List Lk | 0 => [] | k + 1 => lkFlat w h k ++ lkAt w h ((k % w : Nat) : Int) ((k / w : Nat) : Int)
def linksZ (w h : Int) : List Lk := if gridB w h then lkAll w h h.toNat else []
theorem gridB_iff (x y : Int) : gridB x y = true ↔ (1 ≤ x ∧ x ≤ 4) ∧ 1 ≤ y ∧ y ≤ 4 := by simp [gridB, inB_iff]
theorem all2 {a b : Nat} {p : Nat → Nat → Bool} (h : ((List.range a).all fun x => (List.range b).all fun y => p x y) = true) (x y : Nat) (hx : x < a) (hy : y < b) : p x y = true := by
  rw [List.all_eq_true] at h
  have := h x (by simpa using hx)
  rw [List.all_eq_true] at this
  exact this y (by simpa using hy)
theorem lk_tab : ((List.range 5).all fun w => (List.range 5).all fun h => w == 0 || h == 0 || lkFlat w h (w * h) == lkAll w h h) = true := by decide +kernel
theorem lk_same (w : Nat) (h1 : w ≤ 4) (h : Nat) (h2 : h ≤ 4) (h3 : 1 ≤ w) (h4 : 1 ≤ h) : lkFlat w h (w * h) = lkAll w h h := by
  have := all2 lk_tab w h (by omega) (by omega)
  simp only [Bool.or_eq_true, beq_iff_eq] at this
  rcases this with (e | e) | e
  · omega
  · omega
  · exact e
theorem lkAt_len (w h x y : Int) : (lkAt w h x y).length ≤ 2 := by unfold lkAt; split <;> split <;> simp
theorem lkRow_len (w h y : Int) : ∀ x, (lkRow w h y x).length ≤ 2 * x
  | 0 => by simp [lkRow]
  | x + 1 => by have := lkRow_len w h y x; have := lkAt_len w h x y; simp [lkRow]; omega
theorem linksZ_len (w h : Int) : (linksZ w h).length ≤ 32 := by
  unfold linksZ
  split
  · rename_i hg
    obtain ⟨⟨a1, a2⟩, a3, a4⟩ := (gridB_iff _ _).1 hg
    have : ∀ n : Nat, (lkAll w h n).length ≤ 8 * n := fun n => by
      induction n with
      | zero => simp [lkAll]
      | succ n ih => have := lkRow_len w h n w.toNat; simp [lkAll]; omega
    have := this h.toNat
    omega
  · simp

end Go.Proofs.YtehnbalbpfmijaaGreatDoor

namespace Go.Proofs.YtehnbalbpfmijaaGreatDoor
open Go.RowKit

def postA (wd : Int) (l : Lk) : Int := l.2.1 * wd + l.1
def postB (wd : Int) (l : Lk) : Int := if l.2.2 then postA wd l + wd else postA wd l + 1
theorem mul_bdP {a b A B : Int} (h1 : 0 ≤ a) (h2 : a ≤ A) (h3 : 0 ≤ b) (h4 : b ≤ B) : 0 ≤ a * b ∧ a * b ≤ A * B :=
  ⟨Int.mul_nonneg h1 h3, Int.mul_le_mul h2 h4 h3 (by omega)⟩
end Go.Proofs.YtehnbalbpfmijaaGreatDoor
