/- What the claim's walk rests on: parts DrawTO, Set2, OutwW. -/
import Derived.Test.YtehnbalbpfmijaaKt15
import Derived.Test.YtehnbalbpfmijaaKt8
import Derived.Test.YtehnbalbpfmijaaKt12
import Derived.Test.YtehnbalbpfmijaaKt13
import Derived.OwnWalk
namespace Go.Proofs.Ytehnbalbpfmijaa
open Go.RowKit
set_option linter.unusedVariables false

def boolV (us : List Bool) : Array Value := (us.map Value.bool).toArray
theorem boolV_set (us : List Bool) (j : Nat) (b : Bool) : (boolV us).setIfInBounds j (.bool b) = boolV (us.set j b) := by
  unfold boolV
  rw [List.setIfInBounds_toArray, List.map_set]
theorem boolV_new (m : Nat) : madeCells #[.bool false] m = boolV (List.replicate m false) := by
  apply Array.ext
  · simp [madeCells, boolV]
  · intro i h1 h2
    simp [madeCells, boolV, Nat.mod_one]
theorem infoBoolT : (Try.prog.info? 4).map (fun i => (i.zero, i.size, i.bytes)) = some (some (.bool false), 1, 1) := by kernel_rfl
/-- What l23Tree owns while it draws. -/
structure DS (w wr : World) (q : Nat) (v : Value) (n : Nat) (vA : Value) (all : List Lk) (gg cg N nb : Nat) (us : List Bool) (gs : List Nat) : Prop where
  cur : Cur wr q v n
  gr : w.grownBy wr (some q)
  ol : OwnF elLink wr w.heap.size vA all
  og : OwnI wr w.heap.size (.slice (some ⟨gg, 0, none⟩) N cg) (natI gs)
  ob : wr.heap[nb]? = some (.cells (boolV us) 4 (0, 0))
  d1 : ∀ k, vA.ownBlock = some k → k < gg
  d2 : gg < nb
  dq : q < w.heap.size
section
variable {w wr w1 : World} {q n : Nat} {v vA : Value} {all : List Lk} {gg cg N nb : Nat} {us : List Bool} {gs gs' : List Nat}
theorem DS.lq (h : DS w wr q v n vA all gg cg N nb us gs) : w.heap.size ≤ gg := (h.og.lt gg rfl).1
theorem DS.draw (h : DS w wr q v n vA all gg cg N nb us gs) (hc : Cur w1 q v n) (hg : wr.grownBy w1 (some q)) : DS w w1 q v n vA all gg cg N nb us gs := by
  have hq := h.dq
  have hl := h.lq
  have hd := h.d2
  refine ⟨hc, h.gr.trans hg, h.ol.kept hg fun k hk e => ?_, h.og.grown hg fun k hk e => ?_, (hg.block nb (lt_of_block h.ob) (fun e => by simp at e; omega)).trans h.ob, h.d1, h.d2, h.dq⟩
  · have := (h.ol.lt k hk).1; simp at e; omega
  · have := (h.og.lt k hk).1; simp at e; omega
theorem DS.below (h : DS w wr q v n vA all gg cg N nb us gs) (hb : Below wr.heap.size wr w1) : DS w w1 q v n vA all gg cg N nb us gs :=
  ⟨h.cur.below hb, grownBy_below h.gr hb, h.ol.below hb, h.og.below hb, blk_below h.ob hb, h.d1, h.d2, h.dq⟩
theorem DS.join (h : DS w wr q v n vA all gg cg N nb us gs) (ho : OwnI w1 w.heap.size (.slice (some ⟨gg, 0, none⟩) N cg) (natI gs')) (hg : wr.grownBy w1 (some gg)) : DS w w1 q v n vA all gg cg N nb us gs' := by
  have hq := h.dq
  have hl := h.lq
  have hd := h.d2
  refine ⟨h.cur.grown hg fun k hk => by obtain rfl := Option.some.inj hk; omega, grownBy_more h.gr hg fun k hk => by obtain rfl := Option.some.inj hk; exact .inl hl, h.ol.kept hg fun k hk e => ?_, ho, (hg.block nb (lt_of_block h.ob) (fun e => by simp at e; omega)).trans h.ob, h.d1, h.d2, h.dq⟩
  have := h.d1 k hk; simp at e; omega
theorem DS.mark (h : DS w wr q v n vA all gg cg N nb us gs) (j : Nat) : DS w (wr.setCell ⟨nb, j, none⟩ (.bool true)) q v n vA all gg cg N nb (us.set j true) gs := by
  have hq := h.dq
  have hl := h.lq
  have hd := h.d2
  have hg : wr.grownBy (wr.setCell ⟨nb, j, none⟩ (.bool true)) (some nb) := ⟨rfl, rfl, rfl, by simp, fun k hk hne => Below.heap_setCell _ _ _ _ (by intro e; exact hne (by rw [e]))⟩
  refine ⟨h.cur.grown hg fun k hk => by obtain rfl := Option.some.inj hk; omega, grownBy_more h.gr hg fun k hk => by obtain rfl := Option.some.inj hk; exact .inl (by omega), h.ol.kept hg fun k hk e => ?_, h.og.grown hg fun k hk e => ?_, ?_, h.d1, h.d2, h.dq⟩
  · have := h.d1 k hk; simp at e; omega
  · have hk : gg = k := by simpa [Value.ownBlock] using hk
    simp at e; omega
  · rw [← boolV_set]; exact blk_setCell h.ob _
theorem DS.used (h : DS w wr q v n vA all gg cg N nb us gs) {j : Nat} (hj : j < us.length) : wr.cell? ⟨nb, j, none⟩ = some (.bool (us.getD j false)) ∧ wr.frozen? ⟨nb, j, none⟩ = false := by
  refine ⟨?_, blk_free h.ob⟩
  rw [blk_cell h.ob]
  simp [boolV, List.getD_eq_getElem?_getD, hj]
end
/-- Every place is reached. -/
theorem ring {m k j : Nat} (hk : k < m) (hj : j < m) : ∃ i, i < m ∧ (k + i) % m = j := by
  by_cases h : k ≤ j
  · exact ⟨j - k, by omega, by rw [show k + (j - k) = j by omega]; exact Nat.mod_eq_of_lt hj⟩
  · exact ⟨j + m - k, by omega, by rw [show k + (j + m - k) = j + m by omega, Nat.add_mod_right]; exact Nat.mod_eq_of_lt hj⟩
theorem outF_take : ∀ (ls : List Lk) (us : List Bool) (k : Nat) (h : k < ls.length), ls.length = us.length → outF (ls.take (k + 1)) (us.take (k + 1)) = outF (ls.take k) (us.take k) ++ if us.getD k false then [ls[k]] else []
  | l :: ls, true :: us, 0, _, _ => by simp [outF]
  | l :: ls, false :: us, 0, _, _ => by simp [outF]
  | l :: ls, true :: us, k + 1, h, hl => by
    have := outF_take ls us k (by simpa using h) (by simpa using hl)
    simp only [List.take_succ_cons, outF, this, List.cons_append]
    simp
  | l :: ls, false :: us, k + 1, h, hl => by
    have := outF_take ls us k (by simpa using h) (by simpa using hl)
    simp only [List.take_succ_cons, outF, this]
    simp
  | _ :: _, [], _, _, hl => by simp at hl
theorem outF_le : ∀ (ls : List Lk) (us : List Bool), (outF ls us).length ≤ ls.length
  | [], [] => by simp [outF]
  | [], _ :: _ => by simp [outF]
  | _ :: _, [] => by simp [outF]
  | l :: ls, true :: us => by have := outF_le ls us; simp [outF]; omega
  | l :: ls, false :: us => by have := outF_le ls us; simp [outF]; omega

theorem join_same (gs : List Nat) (a b : Nat) (h : gi gs a = gi gs b) : joinF gs (a, b) = gs := by
  unfold joinF
  simp only [h]
  conv => rhs; rw [← List.map_id gs]
  apply List.map_congr_left
  intro x _
  split
  · rename_i h9; exact h9.symm
  · rfl
def treeO (a b : Nat) (ls : List Lk) : Prop := treeB a b ls = true ∧ ls.Sublist (linksZ a b)
theorem outF_sub : ∀ (ls : List Lk) (us : List Bool), (outF ls us).Sublist ls
  | [], us => by simp [outF]
  | l :: ls, [] => by simp [outF]
  | l :: ls, true :: us => by simpa [outF] using outF_sub ls us
  | l :: ls, false :: us => by simpa [outF] using (outF_sub ls us).cons l
def TreeDraw (w : World) (q : Nat) (v : Value) (n : Nat) (e : Ending) (w' : World) : Prop :=
  ∃ (a b : Nat) (ls : List Lk) (u : Value), gridB a b = true ∧ treeO a b ls ∧ e = .returned (.tuple #[.int .i64 a, .int .i64 b, u]) ∧ OwnF elLink w' w.heap.size u ls ∧ Cur w' q v n ∧ w.grownBy w' (some q)

set_option maxRecDepth 100000 in
set_option maxHeartbeats 8000000 in
theorem l23Tree_any (q n : Nat) (v : Value) (w : World) (hc : Cur w q v n) :
    Calls Try.prog 112 #[.pointer (some ⟨q, 0, none⟩)] w (TreeDraw w q v n) := by
  have hq := hc.lt
  have HQ := Lib.hid hq
  go_enter Try.func112, Try.ntmps112
  go_wp2_with fail
  refine (below_any q n v 4 w hc (by omega) (by omega)).mono ?_
  rintro e w1 ⟨r1, ⟨r10, r11⟩, rfl, hc1, hg1⟩
  go_wp2_with fail
  refine (below_any q n v 4 w1 hc1 (by omega) (by omega)).mono ?_
  rintro e w2 ⟨r2, ⟨r20, r21⟩, rfl, hc2, hg2⟩
  have HG2 := Lib.hid (hg1.trans hg2)
  have HC2 := Lib.hid hc2
  clear hg1 hg2 hc1 hc2
  go_wp2_with fail
  obtain ⟨a, ha⟩ : ∃ a : Nat, 1 + r1 = (a : Int) := ⟨(1 + r1).toNat, by omega⟩
  obtain ⟨b, hb⟩ : ∃ b : Nat, 1 + r2 = (b : Int) := ⟨(1 + r2).toNat, by omega⟩
  rw [ha, hb]
  have ha4 : 1 ≤ a ∧ a ≤ 4 := by omega
  have hb4 : 1 ≤ b ∧ b ≤ 4 := by omega
  clear ha hb
  have hg : gridB a b = true := (gridB_iff _ _).2 ⟨by omega, by omega⟩
  have hmul : (a : Int) * (b : Int) = ((a * b : Nat) : Int) := by simp
  have hab : 1 ≤ a * b ∧ a * b ≤ 16 := ⟨Nat.mul_pos (by omega) (by omega), Nat.mul_le_mul ha4.2 hb4.2⟩
  have HAL := Lib.hid (linksZ_len (a : Int) b)
  have HIN := Lib.hid (tree_facts a b hg).1
  have HMO := Lib.hid (fun us gs c h hc => TInv.more hg (us := us) (gs := gs) (c := c) h hc)
  have HTR : Hid (∀ us gs c, TInv (a * b) a (linksZ a b) us gs c → c + 1 = a * b → treeO a b (outF (linksZ a b) us)) := fun us gs c h hc => ⟨TInv.tree hg h hc, outF_sub _ _⟩
  have HST := Lib.hid (TInv.start (a * b) a (linksZ a b))
  obtain ⟨N, HNE⟩ : ∃ N, Hid (a * b = N) := ⟨_, rfl⟩
  rw [HNE.out] at hmul hab HIN HMO HTR HST
  have HMUL := Lib.hid hmul
  have hm0 : 0 ≤ (a : Int) * (b : Int) := by omega
  have hm1 : (a : Int) * (b : Int) ≤ 16 := by omega
  obtain ⟨all, HALL⟩ : ∃ x, Hid (linksZ (a : Int) b = x) := ⟨_, rfl⟩
  rw [HALL.out] at HAL HIN HMO HTR HST
  clear hmul
  refine (specLinksOf_any _ _ _).mono ?_
  rintro e w3 ⟨vA, rfl, ho3, hb3⟩
  rw [HALL.out] at ho3
  have HO3 := Lib.hid (ho3.mono HG2.out.size)
  have HC3 := Lib.hid (HC2.out.below hb3)
  have HG3 := Lib.hid (grownBy_below HG2.out hb3)
  have HLT3 := Lib.hid ho3.lt
  obtain ⟨A1, c1, hv1, gg1, gg2, _⟩ := ho3.rd okLink
  unfold maxLen at gg2
  subst hv1
  have hal := HAL.out
  clear ho3 hb3
  go_wp2_with fail
  rw [HMUL.out]
  refine (l23Groups_any N _ (by omega)).mono ?_
  rintro e w4 ⟨v4, rfl, ho4, hb4'⟩
  obtain ⟨gg, cg, hv4, hg4l, hg4u⟩ := World.ownsRow.form (ownF_int.2 ho4) (by simp [natI]; omega)
  rw [natI_length, List.length_range] at hv4
  subst hv4
  have HO4 := Lib.hid (ho4.mono HG3.out.size)
  have HA4 := Lib.hid (HO3.out.below hb4')
  have HC4 := Lib.hid (HC3.out.below hb4')
  have HG4 := Lib.hid (grownBy_below HG3.out hb4')
  have HLG : Hid (∀ k, (Value.slice A1 all.length c1).ownBlock = some k → k < gg) := fun k hk => by have := (HLT3.out k hk).2; omega
  clear ho4 hb4'
  have hmk : ∀ w : World, (Instr.makeSlice 101 (.int .i64 (all.length : Int)) (.int .i64 (all.length : Int))).run Try.prog w = .ok (.slice (some ⟨w.heap.size, 0, none⟩) all.length all.length) (w.alloc (.cells (boolV (List.replicate all.length false)) 4)) :=
    fun w => by rw [← boolV_new]; exact run_make_row' (P := Try.prog) 101 4 (.bool false) 1 Try.underlying101 infoBoolT rfl .i64 .i64 all.length (by omega) (by omega) w
  obtain ⟨W, hW, k9, hb9⟩ := one_alloc w4 (.cells (boolV (List.replicate all.length false)) 4)
  have HD0 : Hid (DS w W q v n (.slice A1 all.length c1) all gg cg N w4.heap.size (List.replicate all.length false) (List.range N)) :=
    ⟨HC4.out.below hb9, grownBy_below HG4.out hb9, HA4.out.below hb9, HO4.out.below hb9, k9, HLG.out, hg4u, HQ.out⟩
  have HW := Lib.hid hW
  clear hW k9 hb9
  go_wp2_with fail
  rw [← HW.out]
  obtain ⟨nb, hnb⟩ : ∃ nb, w4.heap.size = nb := ⟨_, rfl⟩
  rw [hnb] at HD0 ⊢
  clear hnb HW hmk
  have hmul := HMUL.out
  go_loopw [10] (fun s wr => ∃ (c : Nat) (us : List Bool) (gs : List Nat), s = .int .i64 (c : Int) ∧ c + 1 ≤ N ∧ Hid (DS w wr q v n (.slice A1 all.length c1) all gg cg N nb us gs) ∧ Hid (TInv N a all us gs c)) (fun s _ => N - (intOf s).toNat)
  case atStart => exact ⟨0, _, _, rfl, by omega, HD0, HST⟩
  case round =>
    obtain ⟨c, us, gs, rfl, hcN, HD, HT⟩ := hrel
    have hul := HT.out.ul
    have hgl := HT.out.gl
    by_cases hlt : c + 1 < N
    · have ht : decide ((c : Int) < (N : Int) - 1) = true := by simp only [decide_eq_true_eq]; omega
      have HEX := Lib.hid (HMO.out us gs c HT.out hlt)
      have hm1 : 1 ≤ all.length := by obtain ⟨j, hj, _⟩ := HEX.out; omega
      go_wp2_with fail
      refine (below_any q n v (all.length : Int) wr HD.out.cur (by omega) (by omega)).mono ?_
      rintro e w5 ⟨r, ⟨hr0, hr1⟩, rfl, hc5, hg5⟩
      obtain ⟨kk, rfl⟩ := Int.eq_ofNat_of_zero_le hr0
      have hkk : kk < all.length := by omega
      have HD5 := Lib.hid (HD.out.draw hc5 hg5)
      clear hc5 hg5 hr0 hr1
      go_wp2_with fail
      go_loopw [10, 12] (fun s10 s wr2 => ∃ i : Nat, i ≤ all.length ∧ s10 = .int .i64 (c : Int) ∧ s = .int .i64 (i : Int) ∧ Hid (DS w wr2 q v n (.slice A1 all.length c1) all gg cg N nb us gs) ∧ Hid (∀ i', i' < i → us.getD ((kk + i') % all.length) false = true ∨ ∃ h : (kk + i') % all.length < all.length, gi gs (lkN a all[(kk + i') % all.length]).1 = gi gs (lkN a all[(kk + i') % all.length]).2)) (fun _ s _ => all.length - (intOf s).toNat)
      case atStart => exact ⟨0, Nat.zero_le _, rfl, rfl, HD5, fun i' h => by omega⟩
      case round =>
        obtain ⟨i, hi, rfl, rfl, HDi, HNO⟩ := hrel
        have hk0 : (0 : Int) ≤ (i : Int) := by omega
        by_cases hil : i < all.length
        · have hti : decide ((i : Int) < (all.length : Int)) = true := by simp only [decide_eq_true_eq]; omega
          obtain ⟨jj, HJJ⟩ : ∃ jj, Hid ((kk + i) % all.length = jj) := ⟨_, rfl⟩
          have hjj : jj < all.length := by rw [← HJJ.out]; exact Nat.mod_lt _ (by omega)
          have hmod : ((kk : Int) + (i : Int)) % (all.length : Int) = (jj : Int) := by rw [← HJJ.out]; simp
          have hj0 : (0 : Int) ≤ (jj : Int) := by omega
          have hj1 : (jj : Int) < (all.length : Int) := by omega
          have hne0 : ((all.length : Int) == 0) = false := by rw [beq_eq_false_iff_ne]; omega
          obtain ⟨Ar, cr, hvr, _, _, Gr⟩ := RdT.of (E := elLink) rfl (fun _ => rfl) (HDi.out.ol.rd okLink)
          obtain ⟨ad, hA1, hbl, r1', r2', r3'⟩ := Gr.out jj hjj
          have hAe : A1 = Ar := by simp at hvr; exact hvr.1
          rw [hA1] at hAe
          subst hAe
          clear hvr Gr hA1 hbl
          have HX : Hid (all[jj] = (lx all jj, ly all jj, ld all jj)) := lk_at _ _ hjj
          have hlk := HIN.out _ (List.getElem_mem hjj)
          rw [HX.out] at hlk
          generalize lx all jj = x at *
          generalize ly all jj = y at *
          generalize ld all jj = z at *
          obtain ⟨pa, pb, ha, hb', i1, i2, i3, i4, i5, i6⟩ := lk_ends hlk
          have HA := Lib.hid ha; have HBB := Lib.hid hb'; have HLN : Hid (lkN a all[jj] = (pa, pb)) := by unfold Hid; rw [HX.out]; exact i4
          clear ha hb' i4 hlk
          go_wp2_with fail
          refine (l23Ends_any _ _ _ _ _ (by omega) (by omega) (by omega) (by omega) (by omega) (by omega)).mono ?_
          rintro e w6 ⟨rfl, hb6⟩
          rw [HA.out, HBB.out]
          have HD6 := Lib.hid (HDi.out.below hb6)
          clear hb6 r1' r2' r3'
          obtain ⟨uc, uf⟩ := HD6.out.used (j := jj) (by omega)
          cases hu : us.getD jj false
          · rw [hu] at uc
            go_wp2_with fail
            refine (l23Join_any gg cg N w.heap.size pa pb gs _ HD6.out.og hgl (by omega) (by omega) (by omega)).mono ?_
            rintro e w7 ⟨rfl, hO7, hg7⟩
            have HD7 := Lib.hid (HD6.out.join hO7 hg7)
            clear hO7 hg7 uc uf
            by_cases hj : gi gs pa = gi gs pb
            · rw [show decide (gi gs pa ≠ gi gs pb) = false by simp [hj]]
              have HD8 : Hid (DS w w7 q v n (.slice (some ad) all.length c1) all gg cg N nb us gs) := by
                have h9 := HD7.out
                rw [join_same gs pa pb hj] at h9
                exact h9
              have HNO2 : Hid (∀ i', i' < i + 1 → us.getD ((kk + i') % all.length) false = true ∨ ∃ h : (kk + i') % all.length < all.length, gi gs (lkN a all[(kk + i') % all.length]).1 = gi gs (lkN a all[(kk + i') % all.length]).2) := fun i' h => by
                by_cases e9 : i' = i
                · subst e9
                  refine .inr ⟨Nat.mod_lt _ (by omega), ?_⟩
                  simp only [HJJ.out, HLN.out]
                  exact hj
                · exact HNO.out i' (by omega)
              clear hj
              go_wp2_with fail
              go_roundw
              case rel => exact ⟨i + 1, by omega, rfl, by go_num, HD8, HNO2⟩
              case measure => simp [intOf]; omega
            · rw [show decide (gi gs pa ≠ gi gs pb) = true by simp [hj]]
              have HT8 : Hid (TInv N a all (us.set jj true) (joinF gs (pa, pb)) (c + 1)) := by
                have h9 := HT.out.step hjj hu (by rw [HLN.out]; exact hj)
                rw [HLN.out] at h9
                exact h9
              obtain ⟨uc, uf⟩ := HD7.out.used (j := jj) (by omega)
              have HD8 := Lib.hid (HD7.out.mark jj)
              clear hj
              go_wp2_with fail
              go_roundw
              case rel => exact ⟨c + 1, _, _, by go_num, by omega, HD8, HT8⟩
              case measure => simp [intOf]; omega
          · rw [hu] at uc
            have HNO2 : Hid (∀ i', i' < i + 1 → us.getD ((kk + i') % all.length) false = true ∨ ∃ h : (kk + i') % all.length < all.length, gi gs (lkN a all[(kk + i') % all.length]).1 = gi gs (lkN a all[(kk + i') % all.length]).2) := fun i' h => by
              by_cases e9 : i' = i
              · subst e9
                rw [HJJ.out]
                exact .inl hu
              · exact HNO.out i' (by omega)
            go_wp2_with fail
            go_roundw
            case rel => exact ⟨i + 1, by omega, rfl, by go_num, HD6, HNO2⟩
            case measure => simp [intOf]; omega
        · exfalso
          obtain ⟨j, hj, hu, hne⟩ := HEX.out
          obtain ⟨i', hi', he⟩ := ring hkk hj
          rcases HNO.out i' (by omega) with h9 | ⟨h9, h8⟩
          · rw [he, hu] at h9; simp at h9
          · simp only [he] at h8
            exact hne h8
    · have ht : decide ((c : Int) < (N : Int) - 1) = false := by simp only [decide_eq_false_iff_not]; omega
      have HTB := Lib.hid (HTR.out us gs c HT.out (by omega))
      have HA7 : Hid (Acc elLink wr wr.heap.size (wr.alloc (.cells #[] 68)) (.slice (some ⟨wr.heap.size, 0, none⟩) 0 0) (outF (all.take 0) (us.take 0))) := by
        have : outF (all.take 0) (us.take 0) = [] := by simp [outF]
        rw [this]
        exact Acc.start wr
      have HOT := Lib.hid (fun k hk => outF_take all us k hk hul.symm)
      have HAF : Hid (outF (all.take all.length) (us.take all.length) = outF all us) := by unfold Hid; rw [List.take_length, ← hul, List.take_length]
      have HLE := Lib.hid (fun k => outF_le (all.take k) (us.take k))
      go_wp2_with fail
      go_loopw [16, 17] (fun o s wr2 => ∃ (k : Nat) (u : Value), k ≤ all.length ∧ s = .int .i64 (k : Int) ∧ u = o ∧ Hid (Acc elLink wr wr.heap.size wr2 u (outF (all.take k) (us.take k)))) (fun _ s _ => all.length - (intOf s).toNat)
      case atStart => exact ⟨0, _, Nat.zero_le _, rfl, rfl, HA7⟩
      case round =>
        obtain ⟨k, u, hk, rfl, rfl, HAk⟩ := hrel
        obtain ⟨A2, ca, hv, q1, q2, _⟩ := HAk.out.1.rd okLink
        have hle := HLE.out k
        rw [List.length_take] at hle
        have HDk := Lib.hid (HD.out.below HAk.out.2.1)
        have hk0 : (0 : Int) ≤ (k : Int) := by omega
        by_cases hkl : k < all.length
        · have htk : decide ((k : Int) < (all.length : Int)) = true := by simp only [decide_eq_true_eq]; omega
          have hk1 : (k : Int) < (all.length : Int) := by omega
          obtain ⟨uc, uf⟩ := HDk.out.used (j := k) (by omega)
          have HOK := Lib.hid (HOT.out k hkl)
          cases hu : us.getD k false
          · rw [hu] at uc
            have HE : Hid (outF (all.take (k + 1)) (us.take (k + 1)) = outF (all.take k) (us.take k)) := by unfold Hid; rw [HOK.out, hu]; simp
            go_wp2_with fail
            go_roundw
            case rel => exact ⟨k + 1, _, by omega, by go_num, rfl, by rw [HE.out]; exact HAk⟩
            case measure => simp [intOf]; omega
          · rw [hu] at uc
            obtain ⟨Ar, cr, hvr, _, _, Gr⟩ := RdT.of (E := elLink) rfl (fun _ => rfl) (HDk.out.ol.rd okLink)
            obtain ⟨ad, hA1, hbl, r1', r2', r3'⟩ := Gr.out k hkl
            have hAe : A1 = Ar := by simp at hvr; exact hvr.1
            rw [hA1] at hAe
            subst hAe
            clear hvr Gr hA1 hbl
            have HX : Hid (all[k] = (lx all k, ly all k, ld all k)) := lk_at _ _ hkl
            have HE : Hid (outF (all.take (k + 1)) (us.take (k + 1)) = outF (all.take k) (us.take k) ++ [(lx all k, ly all k, ld all k)]) := by unfold Hid; rw [HOK.out, hu, HX.out]; simp
            generalize lx all k = x at *
            generalize ly all k = y at *
            generalize ld all k = z at *
            generalize outF (all.take k) (us.take k) = ys at *
            subst hv
            unfold maxLen at q2
            go_wp2_with (at_builtin; refine wpList_push okLink rfl _ _ rfl HAk.out rfl (x, y, z) _ rfl _ rfl rfl (by omega) ?_; intro v10 w10 HA10 HG10)
            go_roundw
            case rel => exact ⟨k + 1, _, by omega, by go_num, rfl, by rw [HE.out]; exact HA10⟩
            case measure => simp [intOf]; omega
        · obtain rfl : k = all.length := by omega
          have htk : decide ((all.length : Int) < (all.length : Int)) = false := by simp
          have HO9 : Hid (OwnF elLink wr w.heap.size u (outF all us)) := by
            have h9 := HAk.out.1
            rw [HAF.out] at h9
            exact h9.mono HD.out.gr.size
          go_wp2_with fail
          go_ret3
          exact ⟨a, b, outF all us, _, hg, HTB.out, rfl, HO9.out, HDk.out.cur, HDk.out.gr⟩
end Go.Proofs.Ytehnbalbpfmijaa

namespace Go.Proofs.Ytehnbalbpfmijaa
open Go.RowKit
set_option linter.unusedVariables false

theorem set2_keep {wc : World} {n : Nat} {u v : Value} {p : Addr} (hp : p.block ≠ n) : ((wc.setCell ⟨n, 0, none⟩ u).setCell ⟨n, 1, none⟩ v).drew.cell? p = wc.cell? p :=
  cellBk (b := p.block) rfl (show ((wc.setCell ⟨n, 0, none⟩ u).setCell ⟨n, 1, none⟩ v).heap[p.block]? = _ from (Below.heap_setCell _ _ _ _ hp).trans (Below.heap_setCell _ _ _ _ hp))
/-- Two cells of one block of its own are written. -/
structure Set2 (wc V : World) (n : Nat) (x y : Int) : Prop where
  new : V.heap[n]? = some (.cells #[.int .i64 x, .int .i64 y] 44)
  old : ∀ k, k ≠ n → V.heap[k]? = wc.heap[k]?
  gr : wc.grownBy V (some n)
theorem set2_of {wc : World} {n : Nat} {x0 y0 x y : Int} (h : wc.heap[n]? = some (.cells #[.int .i64 x0, .int .i64 y0] 44)) : Set2 wc ((wc.setCell ⟨n, 0, none⟩ (.int .i64 x)).setCell ⟨n, 1, none⟩ (.int .i64 y)).drew n x y :=
  ⟨(blk_setCell (blk_setCell h _) _).trans rfl, fun k hk => show ((wc.setCell ⟨n, 0, none⟩ (.int .i64 x)).setCell ⟨n, 1, none⟩ (.int .i64 y)).heap[k]? = _ from (Below.heap_setCell _ _ _ _ hk).trans (Below.heap_setCell _ _ _ _ hk),
    rfl, rfl, rfl, by simp, fun j _ hj => show ((wc.setCell ⟨n, 0, none⟩ (.int .i64 x)).setCell ⟨n, 1, none⟩ (.int .i64 y)).heap[j]? = _ from (Below.heap_setCell _ _ _ _ (fun e => hj (by rw [e]))).trans (Below.heap_setCell _ _ _ _ (fun e => hj (by rw [e])))⟩
theorem Set2.keepT {wc V : World} {n : Nat} {x y : Int} (s : Set2 wc V n x y) {A : Option Addr} {ls : List Lk} {v : Value} (h : KeepT wc A ls v) (hn : ∀ ad, A = some ad → ad.block ≠ n) : KeepT V A ls v := ⟨fun k hk => by
  obtain ⟨ad, e, h1, h2, h3, h4, h5⟩ := h.cl k hk
  have hb := s.old ad.block (hn ad e)
  have hl : (ad.add (k * 3)).block = ad.block := addBlock _ _
  exact ⟨ad, e, Nat.lt_of_lt_of_le h1 s.gr.size, h2, (cellBk hl hb).trans h3, (cellBk (p := ⟨(ad.add (k * 3)).block, (ad.add (k * 3)).off + 1, none⟩) hl hb).trans h4, (cellBk (p := ⟨(ad.add (k * 3)).block, (ad.add (k * 3)).off + 2, none⟩) hl hb).trans h5⟩⟩
theorem Set2.acc {wc V : World} {n : Nat} {x y : Int} (s : Set2 wc V n x y) {w : World} {lo : Nat} {v : Value} {xs : List Lk} (h : Acc elLink w lo wc v xs) (hn : ∀ g, v.ownBlock = some g → g ≠ n) (hw : w.heap.size ≤ n) : Acc elLink w lo V v xs :=
  ⟨h.1.same fun k hk => s.old k (hn k hk), h.2.1.grown s.gr h.2.1.size (fun k hk => by simp only [Option.some.injEq] at hk; omega), h.2.2.1, Nat.le_trans h.2.2.2 s.gr.size⟩
theorem set2_bare {wc : World} {n : Nat} {x0 y0 x y : Int} (h : wc.heap[n]? = some (.cells #[.int .i64 x0, .int .i64 y0] 44)) : Set2 wc ((wc.setCell ⟨n, 0, none⟩ (.int .i64 x)).setCell ⟨n, 1, none⟩ (.int .i64 y)) n x y :=
  ⟨(blk_setCell (blk_setCell h _) _).trans rfl, fun k hk => (Below.heap_setCell _ _ _ _ hk).trans (Below.heap_setCell _ _ _ _ hk),
    rfl, rfl, rfl, by simp, fun j _ hj => (Below.heap_setCell _ _ _ _ (fun e => hj (by rw [e]))).trans (Below.heap_setCell _ _ _ _ (fun e => hj (by rw [e])))⟩
theorem setO {w : World} {n k : Nat} {u : Value} {p : Addr} (hp : p.block ≠ n) : (w.setCell ⟨n, k, none⟩ u).cell? p = w.cell? p := cellBk (b := p.block) rfl (Below.heap_setCell _ _ _ _ hp)
theorem drewC {w : World} {p : Addr} : w.drew.cell? p = w.cell? p := rfl
end Go.Proofs.Ytehnbalbpfmijaa

namespace Go.Proofs.Ytehnbalbpfmijaa
open Go.RowKit
set_option linter.unusedVariables false

/-- What outward returns. -/
def RetOut (w : World) (a b F : Nat) (ls : List Lk) (e : Ending) (w' : World) : Prop :=
  ∃ (v : Value) (kn : Nat → Bool) (cs : Nat → Int × Int), e = .returned v ∧ RdF elCell w' w'.heap.size v ((List.range F).map cs) ∧ OInv a b ls kn cs ∧ QuietTo a b ls kn F 0 ∧ Below w.heap.size w w' ∧ ∃ g, v = .slice (some ⟨g, 0, none⟩) F F ∧ w.heap.size ≤ g
set_option maxRecDepth 100000 in
set_option maxHeartbeats 4000000 in
theorem outward_any (wd hh a b : Nat) (u : Value) (ls : List Lk) (B : Nat) (w : World) (hu : RdF elLink w B u ls) (hB : B ≤ w.heap.size) (h1 : 1 ≤ wd ∧ wd ≤ 4) (h2 : 1 ≤ hh ∧ hh ≤ 4) (ha : wd = a + 1) (hb : hh = b + 1) :
    Calls Try.prog 102 #[.int .i64 wd, .int .i64 hh, u] w (RetOut w a b (a * b) ls) := by
  have HU := Lib.hid hu
  obtain ⟨A, c, rfl, g1, g2, _⟩ := hu
  unfold maxLen at g2
  have hwa : (wd : Int) - 1 = (a : Int) := by omega
  have hhb : (hh : Int) - 1 = (b : Int) := by omega
  have ha3 : a ≤ 3 := by omega
  have hb3 : b ≤ 3 := by omega
  obtain ⟨F, hF⟩ : ∃ F, a * b = F := ⟨_, rfl⟩
  have hF9 : F ≤ 9 := by rw [← hF]; exact Nat.mul_le_mul ha3 hb3
  have hab : (a : Int) * (b : Int) = (F : Int) := by rw [← hF]; simp
  have habw : IntKind.i64.wrap ((a : Int) * (b : Int)) = (F : Int) := by rw [hab]; exact IntWalk.i64_in _ (by omega)
  have hFw : IntKind.i64.wrap (F : Int) = (F : Int) := IntWalk.i64_in _ (by omega)
  have HF := Lib.hid hF
  have HWD := Lib.hid ha
  have HHT := Lib.hid hb
  have hmO := fun W => run_makeO F (by omega) W
  have hmK := fun W => run_makeK F (by omega) W
  have hmf : ∀ (fn : Fn) (first cap : Array Value) (w : World), (Instr.makeFunc fn first cap).run Try.prog w = .ok (.func fn first cap) w := fun _ _ _ _ => rfl
  rw [hF]
  clear ha hb hF
  go_enter Try.func102, Try.ntmps102
  go_upto_region 2 with (fail)
  obtain ⟨W, hW, k0, hbW⟩ := one_alloc w (.cells #[.slice A ls.length c] 53)
  rw [← hW]
  have HK0 := Lib.hid k0
  have HBW := Lib.hid hbW
  clear hW k0 hbW
  go_cut [9, 10] (fun o k wx => ∃ gO gK, o = .slice (some ⟨gO, 0, none⟩) F F ∧ k = .slice (some ⟨gK, 0, none⟩) F F ∧ Hid (OMem w wx gO gK (.slice A ls.length c) F (fun _ => false) (fun _ => (0, 0))))
  case first =>
    go_wp2_with fail
    refine wp_region_held_drew (S := fun w' => True) (by kernel_rfl) trivial (fun hHeld => ?_)
    refine wpAnyH_take (i := 0) (oi := ⟨_, _, _, _, _, _⟩) (v := ?vap30937q1n0) rfl (by kernel_rfl) (by kernel_rfl) (by kernel_rfl) (fun _ _ _ h => h) (Or.inl ⟨by rfl, ?hap30937q1n0⟩) (by assumption) ?_
    case hap30937q1n0 => (intro w hSw; (try dsimp only at hSw); go_simp; try with_reducible rfl)
    try simp only [Act.put, List.setIfInBounds_toArray, List.set_cons_zero, List.set_cons_succ]
    refine wpAnyH_take (i := 1) (oi := ⟨_, _, _, _, _, _⟩) (v := ?vap30937q2n1) rfl (by kernel_rfl) (by kernel_rfl) (by kernel_rfl) (fun _ _ _ h => h) (Or.inl ⟨by rfl, ?hap30937q2n1⟩) (by assumption) ?_
    case hap30937q2n1 => (intro w hSw; (try dsimp only at hSw); go_simp; try with_reducible rfl)
    try simp only [Act.put, List.setIfInBounds_toArray, List.set_cons_zero, List.set_cons_succ]
    refine wpAnyH_take (i := 2) (oi := ⟨_, _, _, _, _, _⟩) (v := ?vap30937q3n2) rfl (by kernel_rfl) (by kernel_rfl) (by kernel_rfl) (fun _ _ _ h => h) (Or.inl ⟨by rfl, ?hap30937q3n2⟩) (by assumption) ?_
    case hap30937q3n2 => (intro w hSw; (try dsimp only at hSw); go_simp; try with_reducible rfl)
    try simp only [Act.put, List.setIfInBounds_toArray, List.set_cons_zero, List.set_cons_succ]
    refine wpAnyH_take (i := 4) (oi := ⟨_, _, _, _, _, _⟩) (v := ?vap30937q4n4) rfl (by kernel_rfl) (by kernel_rfl) (by kernel_rfl) (fun _ _ _ h => h) (Or.inl ⟨by rfl, ?hap30937q4n4⟩) (by assumption) ?_
    case hap30937q4n4 => (intro w hSw; (try dsimp only at hSw); go_simp; try with_reducible rfl)
    try simp only [Act.put, List.setIfInBounds_toArray, List.set_cons_zero, List.set_cons_succ]
    refine wpAnyH_take (i := 5) (oi := ⟨_, _, _, _, _, _⟩) (v := ?vap30937q5n5) rfl (by kernel_rfl) (by kernel_rfl) (by kernel_rfl) (fun _ _ _ h => h) (Or.inl ⟨by rfl, ?hap30937q5n5⟩) (by assumption) ?_
    case hap30937q5n5 => (intro w hSw; (try dsimp only at hSw); go_simp; try with_reducible rfl)
    try simp only [Act.put, List.setIfInBounds_toArray, List.set_cons_zero, List.set_cons_succ]
    refine wpAnyH_take (i := 6) (oi := ⟨_, _, _, _, _, _⟩) (v := ?vap30937q6n6) rfl (by kernel_rfl) (by kernel_rfl) (by kernel_rfl) (fun _ _ _ h => h) (Or.inl ⟨by rfl, ?hap30937q6n6⟩) (by assumption) ?_
    case hap30937q6n6 => (intro w hSw; (try dsimp only at hSw); go_simp; try with_reducible rfl)
    try simp only [Act.put, List.setIfInBounds_toArray, List.set_cons_zero, List.set_cons_succ]
    refine wpAnyH_ready (rs := [3, 7]) (by kernel_rfl) (by simp) ?_
    refine AllReadyH.cons (o := ⟨_, _, _, _, _, _⟩) rfl (fun K hK => ?cp30937q7n3) (AllReadyH.cons (o := ⟨_, _, _, _, _, _⟩) rfl (fun K hK => ?cp30937q7n7) AllReadyH.nil)
    case cp30937q7n3 =>
      go_simp
      refine hK.out _ _ (by trivial) (fun hHeld => ?_)
      clear hK K
      try simp only [Act.put, List.setIfInBounds_toArray, List.set_cons_zero, List.set_cons_succ]
      refine wpAnyH_take (i := 8) (oi := ⟨_, _, _, _, _, _⟩) (v := ?vap30937q8n8) rfl (by kernel_rfl) (by kernel_rfl) (by kernel_rfl) (fun _ _ _ h => h) (Or.inl ⟨by rfl, ?hap30937q8n8⟩) (by assumption) ?_
      case hap30937q8n8 => (intro w hSw; (try dsimp only at hSw); go_simp; try with_reducible rfl)
      try simp only [Act.put, List.setIfInBounds_toArray, List.set_cons_zero, List.set_cons_succ]
      refine wpAnyH_ready (rs := [7]) (by kernel_rfl) (by simp) ?_
      refine AllReadyH.cons (o := ⟨_, _, _, _, _, _⟩) rfl (fun K hK => ?_) AllReadyH.nil
      go_simp
      refine hK.out _ _ (by trivial) (fun hHeld => ?_)
      clear hK K
      try simp only [Act.put, List.setIfInBounds_toArray, List.set_cons_zero, List.set_cons_succ]
      refine wpAnyH_take (i := 9) (oi := ⟨_, _, _, _, _, _⟩) (v := ?vap30937q9n9) rfl (by kernel_rfl) (by kernel_rfl) (by kernel_rfl) (fun _ _ _ h => h) (Or.inl ⟨by rfl, ?hap30937q9n9⟩) (by assumption) ?_
      case hap30937q9n9 => (intro w hSw; (try dsimp only at hSw); go_simp; try with_reducible rfl)
      try simp only [Act.put, List.setIfInBounds_toArray, List.set_cons_zero, List.set_cons_succ]
      refine wpAnyH_done (by kernel_rfl) ?_ _
      go_wp2_with fail
      go_meet
      first | exact ⟨_, _, rfl, rfl, (OMem.made HK0.out HBW.out).1⟩ | exact ⟨_, _, rfl, rfl, (OMem.made HK0.out HBW.out).2⟩
    case cp30937q7n7 =>
      go_simp
      refine hK.out _ _ (by trivial) (fun hHeld => ?_)
      clear hK K
      try simp only [Act.put, List.setIfInBounds_toArray, List.set_cons_zero, List.set_cons_succ]
      refine wpAnyH_ready (rs := [3]) (by kernel_rfl) (by simp) ?_
      refine AllReadyH.cons (o := ⟨_, _, _, _, _, _⟩) rfl (fun K hK => ?_) AllReadyH.nil
      go_simp
      refine hK.out _ _ (by trivial) (fun hHeld => ?_)
      clear hK K
      try simp only [Act.put, List.setIfInBounds_toArray, List.set_cons_zero, List.set_cons_succ]
      refine wpAnyH_take (i := 8) (oi := ⟨_, _, _, _, _, _⟩) (v := ?vap30937q10n8) rfl (by kernel_rfl) (by kernel_rfl) (by kernel_rfl) (fun _ _ _ h => h) (Or.inl ⟨by rfl, ?hap30937q10n8⟩) (by assumption) ?_
      case hap30937q10n8 => (intro w hSw; (try dsimp only at hSw); go_simp; try with_reducible rfl)
      try simp only [Act.put, List.setIfInBounds_toArray, List.set_cons_zero, List.set_cons_succ]
      refine wpAnyH_take (i := 9) (oi := ⟨_, _, _, _, _, _⟩) (v := ?vap30937q11n9) rfl (by kernel_rfl) (by kernel_rfl) (by kernel_rfl) (fun _ _ _ h => h) (Or.inl ⟨by rfl, ?hap30937q11n9⟩) (by assumption) ?_
      case hap30937q11n9 => (intro w hSw; (try dsimp only at hSw); go_simp; try with_reducible rfl)
      try simp only [Act.put, List.setIfInBounds_toArray, List.set_cons_zero, List.set_cons_succ]
      refine wpAnyH_done (by kernel_rfl) ?_ _
      go_wp2_with fail
      go_meet
      first | exact ⟨_, _, rfl, rfl, (OMem.made HK0.out HBW.out).1⟩ | exact ⟨_, _, rfl, rfl, (OMem.made HK0.out HBW.out).2⟩
  case rest =>
    obtain ⟨gO, gK, rfl, rfl, HM⟩ := hcut
    go_wp2_with fail
    have HS0 := Lib.hid (OMs.start HM.out)
    clear HM HK0 HBW
    generalize (World.alloc wc _) = W1 at *
    generalize wc.heap.size = nS at *
    have HU0 : Hid (unk F (fun _ => false) + (if true then 1 else 0) ≤ F + 1) := by have := unk_le F (fun _ => false); unfold Hid; simp; omega
    have HI0 := Lib.hid (OInv.start a b ls (fun _ => (0, 0)))
    clear hmO hmK hmf
    go_loopg [13] (F + 1) (fun gk s wr => ∃ (kn : Nat → Bool) (cs : Nat → Int × Int) (ag : Bool), s = .bool ag ∧ Hid (OMs w wr gO gK nS (.slice A ls.length c) F kn cs) ∧ Hid (OInv a b ls kn cs) ∧ Hid (unk F kn + (if ag then 1 else 0) ≤ gk) ∧ Hid (ag = false → QuietTo a b ls kn F 0))
    case atStart => exact ⟨_, _, true, rfl, HS0, HI0, HU0.out, fun h => by simp at h⟩
    case round =>
      obtain ⟨kn, cs, ag, rfl, HS, HI, HUN, HQ⟩ := hrel
      clear HS0 HI0 HU0
      cases ag
      · go_wp2_with fail
        go_ret
        exact ⟨_, kn, cs, rfl, HS.out.m.rd hF9, HI.out, HQ.out (by trivial), HS.out.m.big, _, rfl, Nat.le_of_lt HS.out.m.ne.2.1⟩
      · have HUN1 : Hid (unk F kn + (if false then 1 else 0) ≤ gk - 1) := by have := HUN.out; unfold Hid; simp at this ⊢; omega
        have hgk : gk - 1 < gk := by have := HUN.out; simp at this; omega
        have HQ0 := Lib.hid (QuietTo.start a b ls kn)
        clear HUN HQ
        go_wp2_with fail
        go_loopw [13, 44] (fun s i wr2 => ∃ (k : Nat) (kn2 : Nat → Bool) (cs2 : Nat → Int × Int) (ag2 : Bool), k ≤ F ∧ i = .int .i64 (k : Int) ∧ s = .bool ag2 ∧ Hid (OMs w wr2 gO gK nS (.slice A ls.length c) F kn2 cs2) ∧ Hid (OInv a b ls kn2 cs2) ∧ Hid (unk F kn2 + (if ag2 then 1 else 0) ≤ gk - 1) ∧ Hid (ag2 = false → QuietTo a b ls kn2 k 0)) (fun _ i _ => F - (intOf i).toNat)
        case atStart => exact ⟨0, kn, cs, false, Nat.zero_le _, rfl, rfl, HS, HI, HUN1, fun _ => HQ0.out⟩
        case round =>
          obtain ⟨k, kn2, cs2, ag2, hk, rfl, rfl, HS2, HI2, HUN2, HQ2⟩ := hrel
          clear HS HI HUN1 HQ0
          by_cases hlt : k < F
          · have ht : decide ((k : Int) < (F : Int)) = true := by simp only [decide_eq_true_eq]; omega
            have ha0 : 0 < a := Nat.pos_of_ne_zero fun e => by have := HF.out; rw [e] at this; omega
            have hqb : k / a < b := (Nat.div_lt_iff_lt_mul ha0).2 (by have := HF.out; rw [Nat.mul_comm]; omega)
            have hpa : k % a < a := Nat.mod_lt _ ha0
            have hq1 : (k : Int) / (a : Int) = ((k / a : Nat) : Int) := by rw [Int.natCast_ediv]
            have hr1 : (k : Int) % (a : Int) = ((k % a : Nat) : Int) := by rw [Int.natCast_emod]
            have hq2 : Int.tdiv (k : Int) (a : Int) = ((k / a : Nat) : Int) := by rw [Int.tdiv_eq_ediv_of_nonneg (by omega)]; exact hq1
            have hr2 : Int.tmod (k : Int) (a : Int) = ((k % a : Nat) : Int) := by rw [Int.tmod_eq_emod_of_nonneg (by omega)]; exact hr1
            have HPD : Hid (∀ d, nbU a k d = ((k % a : Nat) : Int) + d.1 ∧ nbV a k d = ((k / a : Nat) : Int) + d.2) := fun d => ⟨rfl, rfl⟩
            have HPC : Hid (cellF (a + 1) k = (2 * ((k % a : Nat) : Int) + 1, 2 * ((k / a : Nat) : Int) + 1)) := cellF_mod
            generalize k % a = p at *
            generalize k / a = q at *
            have ha1 : (0 : Int) < (a : Int) := by omega
            have hz : ((a : Int) == 0) = false := by rw [beq_eq_false_iff_ne]; omega
            have hk0 : (0 : Int) ≤ (k : Int) := by omega
            have hk1 : (k : Int) < (F : Int) := by omega
            have hk9 : (k : Int) < 9 := by omega
            go_wp2_with fail
            go_quiet (fail)
            go_wp2_with fail
            clear hq1 hr1 hq2 hr2 hz hk9
            go_loopw [13, 55] (fun s j wr3 => ∃ (m : Nat) (kn3 : Nat → Bool) (cs3 : Nat → Int × Int) (ag3 : Bool), m ≤ 4 ∧ j = .int .i64 (m : Int) ∧ s = .bool ag3 ∧ Hid (OMs w wr3 gO gK nS (.slice A ls.length c) F kn3 cs3) ∧ Hid (OInv a b ls kn3 cs3) ∧ Hid (unk F kn3 + (if ag3 then 1 else 0) ≤ gk - 1) ∧ Hid (ag3 = false → QuietTo a b ls kn3 k m)) (fun _ j _ => 4 - (intOf j).toNat)
            case atStart => exact ⟨0, kn2, cs2, ag2, Nat.zero_le _, rfl, rfl, HS2.out.below (Drawn.below ⟨_, rfl⟩ _), HI2, HUN2, HQ2⟩
            case round =>
              obtain ⟨m, kn3, cs3, ag3, hm, rfl, rfl, HS3, HI3, HUN3, HQ3⟩ := hrel
              clear HS2 HI2 HUN2 HQ2
              by_cases hlm : m < 4
              · have htm : decide ((m : Int) < 4) = true := by simp only [decide_eq_true_eq]; omega
                obtain ⟨hsx, hsy⟩ := HS3.out.cells.1 m hlm
                obtain ⟨X, Y, hXY⟩ : ∃ X Y, sd m = (X, Y) := ⟨_, _, rfl⟩
                have hdir := sd_dir hlm
                rw [hXY] at hsx hsy hdir
                simp only at hsx hsy
                have hXb : (-1 ≤ X ∧ X ≤ 1) ∧ -1 ≤ Y ∧ Y ≤ 1 := by
                  rcases (dirs4_iff _).1 hdir with e | e | e | e <;> simp at e <;> omega
                obtain ⟨⟨hX0, hX1⟩, hY0, hY1⟩ := hXb
                have HXY := Lib.hid hXY
                have HDIR := Lib.hid hdir
                have hm0 : (0 : Int) ≤ (m : Int) := by omega
                have hm1 : (m : Int) < 4 := by omega
                clear hXY hdir
                go_upto_region 15 with (fail)
                obtain ⟨V1, hV1, kV1, bV1⟩ := one_alloc wr (.cells #[.int .i64 X, .int .i64 Y] 44)
                rw [← hV1]
                obtain ⟨n9, hn9⟩ : ∃ n9, wr.heap.size = n9 := ⟨_, rfl⟩
                have HS4 := Lib.hid (HS3.out.below bV1)
                have HK9 := Lib.hid kV1
                rw [hn9] at HK9 ⊢
                have z0 : V1.cell? ⟨n9, 0, none⟩ = some (.int .i64 X) := by rw [blk_cell HK9.out]; rfl
                have z1 : V1.cell? ⟨n9, 1, none⟩ = some (.int .i64 Y) := by rw [blk_cell HK9.out]; rfl
                obtain ⟨U, hU⟩ : ∃ U, (p : Int) + X = U := ⟨_, rfl⟩
                obtain ⟨Z, hZ⟩ : ∃ Z, (q : Int) + Y = Z := ⟨_, rfl⟩
                have hUw : IntKind.i64.wrap ((p : Int) + X) = U := by rw [IntWalk.i64_in _ (by omega)]; exact hU
                have hZw : IntKind.i64.wrap ((q : Int) + Y) = Z := by rw [IntWalk.i64_in _ (by omega)]; exact hZ
                obtain ⟨ob, HOB⟩ : ∃ ob, Hid ((decide (U < 0) || (decide (Z < 0) || (decide ((a : Int) ≤ U) || decide ((b : Int) ≤ Z)))) = ob) := ⟨_, rfl⟩
                have HOB2 : Hid (outB a b k (X, Y) = ob) := by
                  unfold Hid
                  rw [← HOB.out]
                  unfold outB
                  rw [(HPD.out (X, Y)).1, (HPD.out (X, Y)).2]
                  show (decide ((p : Int) + X < 0) || (decide ((q : Int) + Y < 0) || (decide ((a : Int) ≤ (p : Int) + X) || decide ((b : Int) ≤ (q : Int) + Y)))) = _
                  rw [hU, hZ]
                clear hV1 kV1 bV1 HS3 hsx hsy hn9
                go_wp2_with fail
                go_quiet (fail)
                go_upto_region 16 with (fail)
                generalize hV2 : World.drewN V1 _ = V2
                have HS5 : Hid (OMs w V2 gO gK nS (.slice A ls.length c) F kn3 cs3) := by unfold Hid; rw [← hV2]; exact HS4.out.below (Drawn.below ⟨_, rfl⟩ _)
                have HK5 : Hid (V2.heap[n9]? = some (.cells #[.int .i64 X, .int .i64 Y] 44 (0, 0))) := by unfold Hid; rw [← hV2]; exact HK9.out
                clear hV2 HS4 HK9 z0 z1 hUw hZw
                go_cut [21] (fun s wx => s = .bool ob ∧ wx = V2)
                case first =>
                  by_cases c1 : U < 0
                  · have H : Hid (true = ob) := by unfold Hid; rw [← HOB.out]; simp [c1]
                    go_wp2_with fail
                    go_meet
                    exact ⟨by rw [H.out], rfl⟩
                  · by_cases c2 : Z < 0
                    · have H : Hid (true = ob) := by unfold Hid; rw [← HOB.out]; simp [c2]
                      go_wp2_with fail
                      go_meet
                      exact ⟨by rw [H.out], rfl⟩
                    · by_cases c3 : (a : Int) ≤ U
                      · have H : Hid (true = ob) := by unfold Hid; rw [← HOB.out]; simp [c3]
                        go_wp2_with fail
                        go_meet
                        exact ⟨by rw [H.out], rfl⟩
                      · by_cases c4 : (b : Int) ≤ Z
                        · have H : Hid (true = ob) := by unfold Hid; rw [← HOB.out]; simp [c4]
                          go_wp2_with fail
                          go_meet
                          exact ⟨by rw [H.out], rfl⟩
                        · have H : Hid (false = ob) := by unfold Hid; rw [← HOB.out]; simp [c1, c2, c3, c4]
                          go_wp2_with fail
                          go_meet
                          exact ⟨by rw [H.out], rfl⟩
                case rest =>
                  obtain ⟨rfl, rfl⟩ := hcut
                  clear HOB
                  have z0 : wc.cell? ⟨n9, 0, none⟩ = some (.int .i64 X) := by rw [blk_cell HK5.out]; rfl
                  have z1 : wc.cell? ⟨n9, 1, none⟩ = some (.int .i64 Y) := by rw [blk_cell HK5.out]; rfl
                  have hp0 : (0 : Int) ≤ (p : Int) ∧ (p : Int) ≤ 2 := by omega
                  have hq0 : (0 : Int) ≤ (q : Int) ∧ (q : Int) ≤ 2 := by omega
                  obtain ⟨hp0, hp2⟩ := hp0
                  obtain ⟨hq0, hq2⟩ := hq0
                  go_upto_region 18 with (fail)
                  obtain ⟨cx, hcx⟩ : ∃ cx, 2 * (p : Int) + 1 + X = cx := ⟨_, rfl⟩
                  obtain ⟨cy, hcy⟩ : ∃ cy, 2 * (q : Int) + 1 + Y = cy := ⟨_, rfl⟩
                  rw [hcx, hcy]
                  obtain ⟨V3, hV3, kV3, bV3⟩ := one_alloc wc (.cells #[.int .i64 cx, .int .i64 cy] 44)
                  rw [← hV3]
                  obtain ⟨n8, hn8⟩ : ∃ n8, wc.heap.size = n8 := ⟨_, rfl⟩
                  have HS6 := Lib.hid (HS5.out.below bV3)
                  have HK6 := Lib.hid kV3
                  rw [hn8] at HK6 ⊢
                  have hc0 : (0 ≤ cx ∧ cx ≤ 100) ∧ 0 ≤ cy ∧ cy ≤ 100 := by omega
                  have HC0 := Lib.hid hc0
                  have HPAD : Hid (pad (cellF (a + 1) k) (X, Y) = (cx, cy)) := by unfold Hid; rw [HPC.out, ← hcx, ← hcy]; rfl
                  obtain ⟨kk, HKK⟩ : ∃ kk, Hid (kn3 k = kk) := ⟨_, rfl⟩
                  obtain ⟨oc, HOC⟩ : ∃ oc, Hid (openB ls (cx, cy) = oc) := ⟨_, rfl⟩
                  obtain ⟨kb, HKB⟩ : ∃ kb, Hid (kn3 (nb a k (X, Y)) = kb) := ⟨_, rfl⟩
                  have HCB : Hid (condB a b ls kn3 k (X, Y) = (!kk && (oc && (ob || kb)))) := by unfold Hid condB; rw [HPAD.out, HKK.out, HOC.out, HKB.out, HOB2.out]
                  have HOPN := Lib.hid (fun (V : World) (hV : Below w.heap.size w V) (hx : V.heap[w.heap.size]? = some (.cells #[.slice A ls.length c] 53 (0, 0))) => openC_any ls (.slice A ls.length c) cx cy HC0.out.1 HC0.out.2 w.heap.size B V (HU.out.below (hV.mono hB)) (Nat.le_trans hB hV.size) hx)
                  have e0 : V3.cell? ⟨n8, 0, none⟩ = some (.int .i64 cx) := by rw [blk_cell HK6.out]; rfl
                  have e1 : V3.cell? ⟨n8, 1, none⟩ = some (.int .i64 cy) := by rw [blk_cell HK6.out]; rfl
                  have hkc : V3.cell? ⟨gK, k, none⟩ = some (.bool kk) := by rw [((HS6.out.cells).2.1 k hlt).1, HKK.out]
                  clear hV3 kV3 bV3 hn8 z0 z1 HS5 HK5 hcx hcy hc0
                  go_cut [118] (fun s2 wx => s2 = .bool (!kk && (oc && (ob || kb))) ∧ Hid (OMs w wx gO gK nS (.slice A ls.length c) F kn3 cs3) ∧ Hid (wx.heap[n8]? = some (.cells #[.int .i64 cx, .int .i64 cy] 44 (0, 0))))
                  case first =>
                    cases kk
                    · go_wp2_with fail
                      refine (HOPN.out _ HS6.out.m.big HS6.out.m.box).mono ?_
                      rintro e w5 ⟨rfl, hb5⟩
                      rw [HOC.out]
                      have HS7 := Lib.hid (HS6.out.below hb5)
                      have HK7 := Lib.hid (blk_below HK6.out hb5)
                      clear hb5 e0 e1 hkc
                      cases oc
                      · go_wp2_with fail
                        go_meet
                        exact ⟨rfl, HS7, HK7⟩
                      · cases ob
                        · obtain ⟨n1, n2, _, _⟩ := nb_lt HOB2.out
                          have hob := outB_no HOB2.out
                          rw [(HPD.out (X, Y)).1, (HPD.out (X, Y)).2] at n2 hob
                          simp only at n2 hob
                          rw [hU, hZ] at n2 hob
                          have hnc : w5.cell? ⟨gK, nb a k (X, Y), none⟩ = some (.bool kb) := by rw [((HS7.out.cells).2.1 _ (by rw [← HF.out]; exact n1)).1, HKB.out]
                          have hnF : ((nb a k (X, Y) : Nat) : Int) < (F : Int) := by have := HF.out; omega
                          obtain ⟨⟨u0, u1⟩, z0, z1⟩ := hob
                          generalize nb a k (X, Y) = nn at *
                          have hn0 : (0 : Int) ≤ (nn : Int) := by omega
                          have hm0 : 0 ≤ Z * (a : Int) := Int.mul_nonneg z0 (by omega)
                          have hm9 : Z * (a : Int) ≤ 9 := by omega
                          have hnn : Z * (a : Int) + U = (nn : Int) := n2.symm
                          clear n1 n2 hU hZ
                          go_wp2_with fail
                          go_meet
                          exact ⟨by cases kb <;> rfl, HS7, HK7⟩
                        · go_wp2_with fail
                          go_meet
                          exact ⟨rfl, HS7, HK7⟩
                    · go_wp2_with fail
                      go_meet
                      exact ⟨rfl, HS6, HK6⟩
                  case rest =>
                    obtain ⟨rfl, HS7, HK7⟩ := hcut
                    clear HS6 HK6 e0 e1 hkc HOPN
                    generalize (!kk && (oc && (ob || kb))) = cb at *
                    cases cb
                    · have HQ5 : Hid (ag3 = false → QuietTo a b ls kn3 k (m + 1)) := fun h => (HQ3.out h).step (by rw [HXY.out]; exact HCB.out)
                      go_wp2_with fail
                      go_roundw
                      case rel => exact ⟨m + 1, _, _, _, by omega, by go_num, rfl, HS7, HI3, HUN3, HQ5⟩
                      case measure => simp [intOf]; omega
                    · obtain ⟨c1, c2, c3⟩ := HS7.out.cells.2.1 k hlt
                      obtain ⟨f1, f2⟩ := HS7.out.cells.2.2
                      have hne1 := HS7.out.m.ne.1
                      have hne2 : gK ≠ gO := fun e => hne1 e.symm
                      have e0 := (blk_cell (k := 0) HK7.out)
                      have e1 := (blk_cell (k := 1) HK7.out)
                      have HSN := Lib.hid (HS7.out.set hlt cx cy)
                      have HIN : Hid (OInv a b ls (updB kn3 k) (updC cs3 k (cx, cy))) := by
                        have := HI3.out.step HDIR.out HCB.out
                        rw [HPAD.out] at this; exact this
                      have HUN5 : Hid (unk F (updB kn3 k) + (if true then 1 else 0) ≤ gk - 1) := by
                        have h1 := unk_upd (F := F) (kn := kn3) hlt (cond_iff.1 HCB.out).1
                        have h2 := HUN3.out
                        unfold Hid; simp; omega
                      go_wp2_with fail
                      go_roundw
                      case rel => exact ⟨m + 1, updB kn3 k, updC cs3 k (cx, cy), true, by omega, by go_num, rfl, HSN, HIN, HUN5, fun h => by simp at h⟩
                      case measure => simp [intOf]; omega
              · obtain rfl : m = 4 := by omega
                have HQ4 : Hid (ag3 = false → QuietTo a b ls kn3 (k + 1) 0) := fun h => (HQ3.out h).next
                go_wp2_with fail
                go_roundw
                case rel => exact ⟨k + 1, _, _, _, by omega, by go_num, rfl, HS3, HI3, HUN3, HQ4⟩
                case measure => simp [intOf]; omega
          · have ht : decide ((k : Int) < (F : Int)) = false := by simp only [decide_eq_false_iff_not]; omega
            obtain rfl : k = F := by omega
            go_wp2_with fail
            go_roundg (gk - 1)
            case measure => exact hgk
            case rel => exact ⟨_, _, _, rfl, HS2, HI2, HUN2.out, HQ2⟩
end Go.Proofs.Ytehnbalbpfmijaa
