/- The walk of the reference's l23Tree, and DrawTree. -/
import Derived.Test.YtiecphhenpapoaaDrawTL
import Derived.Test.YtiecphhenpapoaaCur
import Derived.Test.YtiecphhenpapoaaCurOwn
import Derived.Test.YtiecphhenpapoaaGroups
import Derived.OwnWalk
namespace Go.Proofs.Ytiecphhenpapoaa
open Go.RowKit
set_option linter.unusedVariables false

def boolV (us : List Bool) : Array Value := (us.map Value.bool).toArray
theorem boolV_set (us : List Bool) (j : Nat) (b : Bool) : (boolV us).setIfInBounds j (.bool b) = boolV (us.set j b) := by
  unfold boolV
  rw [List.setIfInBounds_toArray, List.map_set]
theorem boolV_new (m : Nat) : madeCells #[.bool false] m = boolV (List.replicate m false) := by
  apply Array.ext
  · simp [madeCells, boolV]
  · intro i h1 h2
    simp [madeCells, boolV, Nat.mod_one]
theorem infoBoolT : (Try.prog.info? 4).map (fun i => (i.zero, i.size, i.bytes)) = some (some (.bool false), 1, 1) := by kernel_rfl
/-- What l23Tree owns while it draws. -/
structure DS (w wr : World) (q : Nat) (v : Value) (n : Nat) (vA : Value) (all : List Lk) (gg cg N nb : Nat) (us : List Bool) (gs : List Nat) : Prop where
  cur : Cur wr q v n
  gr : w.grownBy wr (some q)
  ol : OwnF elLink wr w.heap.size vA all
  og : OwnI wr w.heap.size (.slice (some ⟨gg, 0, none⟩) N cg) (natI gs)
  ob : wr.heap[nb]? = some (.cells (boolV us) 4 (0, 0))
  d1 : ∀ k, vA.ownBlock = some k → k < gg
  d2 : gg < nb
  dq : q < w.heap.size
section
variable {w wr w1 : World} {q n : Nat} {v vA : Value} {all : List Lk} {gg cg N nb : Nat} {us : List Bool} {gs gs' : List Nat}
theorem DS.lq (h : DS w wr q v n vA all gg cg N nb us gs) : w.heap.size ≤ gg := (h.og.lt gg rfl).1
theorem DS.draw (h : DS w wr q v n vA all gg cg N nb us gs) (hc : Cur w1 q v n) (hg : wr.grownBy w1 (some q)) : DS w w1 q v n vA all gg cg N nb us gs := by
  have hq := h.dq
  have hl := h.lq
  have hd := h.d2
  refine ⟨hc, h.gr.trans hg, h.ol.kept hg fun k hk e => ?_, h.og.grown hg fun k hk e => ?_, (hg.block nb (lt_of_block h.ob) (fun e => by simp at e; omega)).trans h.ob, h.d1, h.d2, h.dq⟩
  · have := (h.ol.lt k hk).1; simp at e; omega
  · have := (h.og.lt k hk).1; simp at e; omega
theorem DS.below (h : DS w wr q v n vA all gg cg N nb us gs) (hb : Below wr.heap.size wr w1) : DS w w1 q v n vA all gg cg N nb us gs :=
  ⟨h.cur.below hb, grownBy_below h.gr hb, h.ol.below hb, h.og.below hb, blk_below h.ob hb, h.d1, h.d2, h.dq⟩
theorem DS.join (h : DS w wr q v n vA all gg cg N nb us gs) (ho : OwnI w1 w.heap.size (.slice (some ⟨gg, 0, none⟩) N cg) (natI gs')) (hg : wr.grownBy w1 (some gg)) : DS w w1 q v n vA all gg cg N nb us gs' := by
  have hq := h.dq
  have hl := h.lq
  have hd := h.d2
  refine ⟨h.cur.grown hg fun k hk => by obtain rfl := Option.some.inj hk; omega, grownBy_more h.gr hg fun k hk => by obtain rfl := Option.some.inj hk; exact .inl hl, h.ol.kept hg fun k hk e => ?_, ho, (hg.block nb (lt_of_block h.ob) (fun e => by simp at e; omega)).trans h.ob, h.d1, h.d2, h.dq⟩
  have := h.d1 k hk; simp at e; omega
theorem DS.mark (h : DS w wr q v n vA all gg cg N nb us gs) (j : Nat) : DS w (wr.setCell ⟨nb, j, none⟩ (.bool true)) q v n vA all gg cg N nb (us.set j true) gs := by
  have hq := h.dq
  have hl := h.lq
  have hd := h.d2
  have hg : wr.grownBy (wr.setCell ⟨nb, j, none⟩ (.bool true)) (some nb) := ⟨rfl, rfl, rfl, by simp, fun k hk hne => Below.heap_setCell _ _ _ _ (by intro e; exact hne (by rw [e]))⟩
  refine ⟨h.cur.grown hg fun k hk => by obtain rfl := Option.some.inj hk; omega, grownBy_more h.gr hg fun k hk => by obtain rfl := Option.some.inj hk; exact .inl (by omega), h.ol.kept hg fun k hk e => ?_, h.og.grown hg fun k hk e => ?_, ?_, h.d1, h.d2, h.dq⟩
  · have := h.d1 k hk; simp at e; omega
  · have hk : gg = k := by simpa [Value.ownBlock] using hk
    simp at e; omega
  · rw [← boolV_set]; exact blk_setCell h.ob _
theorem DS.used (h : DS w wr q v n vA all gg cg N nb us gs) {j : Nat} (hj : j < us.length) : wr.cell? ⟨nb, j, none⟩ = some (.bool (us.getD j false)) ∧ wr.frozen? ⟨nb, j, none⟩ = false := by
  refine ⟨?_, blk_free h.ob⟩
  rw [blk_cell h.ob]
  simp [boolV, List.getD_eq_getElem?_getD, hj]
end
/-- Every place is reached. -/
theorem ring {m k j : Nat} (hk : k < m) (hj : j < m) : ∃ i, i < m ∧ (k + i) % m = j := by
  by_cases h : k ≤ j
  · exact ⟨j - k, by omega, by rw [show k + (j - k) = j by omega]; exact Nat.mod_eq_of_lt hj⟩
  · exact ⟨j + m - k, by omega, by rw [show k + (j + m - k) = j + m by omega, Nat.add_mod_right]; exact Nat.mod_eq_of_lt hj⟩
theorem outF_take : ∀ (ls : List Lk) (us : List Bool) (k : Nat) (h : k < ls.length), ls.length = us.length → outF (ls.take (k + 1)) (us.take (k + 1)) = outF (ls.take k) (us.take k) ++ if us.getD k false then [ls[k]] else []
  | l :: ls, true :: us, 0, _, _ => by simp [outF]
  | l :: ls, false :: us, 0, _, _ => by simp [outF]
  | l :: ls, true :: us, k + 1, h, hl => by
    have := outF_take ls us k (by simpa using h) (by simpa using hl)
    simp only [List.take_succ_cons, outF, this, List.cons_append]
    simp
  | l :: ls, false :: us, k + 1, h, hl => by
    have := outF_take ls us k (by simpa using h) (by simpa using hl)
    simp only [List.take_succ_cons, outF, this]
    simp
  | _ :: _, [], _, _, hl => by simp at hl
theorem outF_le : ∀ (ls : List Lk) (us : List Bool), (outF ls us).length ≤ ls.length
  | [], [] => by simp [outF]
  | [], _ :: _ => by simp [outF]
  | _ :: _, [] => by simp [outF]
  | l :: ls, true :: us => by have := outF_le ls us; simp [outF]; omega
  | l :: ls, false :: us => by have := outF_le ls us; simp [outF]; omega

theorem join_same (gs : List Nat) (a b : Nat) (h : gi gs a = gi gs b) : joinF gs (a, b) = gs := by
  unfold joinF
  simp only [h]
  conv => rhs; rw [← List.map_id gs]
  apply List.map_congr_left
  intro x _
  split
  · rename_i h9; exact h9.symm
  · rfl
def TreeDraw (w : World) (q : Nat) (v : Value) (n : Nat) (e : Ending) (w' : World) : Prop :=
  ∃ (a b : Nat) (ls : List Lk) (u : Value), gridB a b = true ∧ treeB a b ls = true ∧ e = .returned (.tuple #[.int .i64 a, .int .i64 b, u]) ∧ OwnF elLink w' w.heap.size u ls ∧ Cur w' q v n ∧ w.grownBy w' (some q)

set_option maxRecDepth 100000 in
set_option maxHeartbeats 8000000 in
theorem l23Tree_any (q n : Nat) (v : Value) (w : World) (hc : Cur w q v n) :
    Calls Try.prog 93 #[.pointer (some ⟨q, 0, none⟩)] w (TreeDraw w q v n) := by
  have hq := hc.lt
  have HQ := Lib.hid hq
  go_enter Try.func93, Try.ntmps93
  go_wp2_with fail
  refine (below_any q n v 4 w hc (by omega) (by omega)).mono ?_
  rintro e w1 ⟨r1, ⟨r10, r11⟩, rfl, hc1, hg1⟩
  go_wp2_with fail
  refine (below_any q n v 4 w1 hc1 (by omega) (by omega)).mono ?_
  rintro e w2 ⟨r2, ⟨r20, r21⟩, rfl, hc2, hg2⟩
  have HG2 := Lib.hid (hg1.trans hg2)
  have HC2 := Lib.hid hc2
  clear hg1 hg2 hc1 hc2
  go_wp2_with fail
  obtain ⟨a, ha⟩ : ∃ a : Nat, 1 + r1 = (a : Int) := ⟨(1 + r1).toNat, by omega⟩
  obtain ⟨b, hb⟩ : ∃ b : Nat, 1 + r2 = (b : Int) := ⟨(1 + r2).toNat, by omega⟩
  rw [ha, hb]
  have ha4 : 1 ≤ a ∧ a ≤ 4 := by omega
  have hb4 : 1 ≤ b ∧ b ≤ 4 := by omega
  clear ha hb
  have hg : gridB a b = true := (gridB_iff _ _).2 ⟨by omega, by omega⟩
  have hmul : (a : Int) * (b : Int) = ((a * b : Nat) : Int) := by simp
  have hab : 1 ≤ a * b ∧ a * b ≤ 16 := ⟨Nat.mul_pos (by omega) (by omega), Nat.mul_le_mul ha4.2 hb4.2⟩
  have HAL := Lib.hid (linksZ_len (a : Int) b)
  have HIN := Lib.hid (tree_facts a b hg).1
  have HMO := Lib.hid (fun us gs c h hc => TInv.more hg (us := us) (gs := gs) (c := c) h hc)
  have HTR := Lib.hid (fun us gs c h hc => TInv.tree hg (us := us) (gs := gs) (c := c) h hc)
  have HST := Lib.hid (TInv.start (a * b) a (linksZ a b))
  obtain ⟨N, HNE⟩ : ∃ N, Hid (a * b = N) := ⟨_, rfl⟩
  rw [HNE.out] at hmul hab HIN HMO HTR HST
  have HMUL := Lib.hid hmul
  have hm0 : 0 ≤ (a : Int) * (b : Int) := by omega
  have hm1 : (a : Int) * (b : Int) ≤ 16 := by omega
  obtain ⟨all, HALL⟩ : ∃ x, Hid (linksZ (a : Int) b = x) := ⟨_, rfl⟩
  rw [HALL.out] at HAL HIN HMO HTR HST
  clear hmul
  refine (specLinksOf_any _ _ _).mono ?_
  rintro e w3 ⟨vA, rfl, ho3, hb3⟩
  rw [HALL.out] at ho3
  have HO3 := Lib.hid (ho3.mono HG2.out.size)
  have HC3 := Lib.hid (HC2.out.below hb3)
  have HG3 := Lib.hid (grownBy_below HG2.out hb3)
  have HLT3 := Lib.hid ho3.lt
  obtain ⟨A1, c1, hv1, gg1, gg2, _⟩ := ho3.rd okLink
  unfold maxLen at gg2
  subst hv1
  have hal := HAL.out
  clear ho3 hb3
  go_wp2_with fail
  rw [HMUL.out]
  refine (l23Groups_any N _ (by omega)).mono ?_
  rintro e w4 ⟨v4, rfl, ho4, hb4'⟩
  obtain ⟨gg, cg, hv4, hg4l, hg4u⟩ := World.ownsRow.form (ownF_int.2 ho4) (by simp [natI]; omega)
  rw [natI_length, List.length_range] at hv4
  subst hv4
  have HO4 := Lib.hid (ho4.mono HG3.out.size)
  have HA4 := Lib.hid (HO3.out.below hb4')
  have HC4 := Lib.hid (HC3.out.below hb4')
  have HG4 := Lib.hid (grownBy_below HG3.out hb4')
  have HLG : Hid (∀ k, (Value.slice A1 all.length c1).ownBlock = some k → k < gg) := fun k hk => by have := (HLT3.out k hk).2; omega
  clear ho4 hb4'
  have hmk : ∀ w : World, (Instr.makeSlice 116 (.int .i64 (all.length : Int)) (.int .i64 (all.length : Int))).run Try.prog w = .ok (.slice (some ⟨w.heap.size, 0, none⟩) all.length all.length) (w.alloc (.cells (boolV (List.replicate all.length false)) 4)) :=
    fun w => by rw [← boolV_new]; exact run_make_row' (P := Try.prog) 116 4 (.bool false) 1 Try.underlying116 infoBoolT rfl .i64 .i64 all.length (by omega) (by omega) w
  obtain ⟨W, hW, k9, hb9⟩ := one_alloc w4 (.cells (boolV (List.replicate all.length false)) 4)
  have HD0 : Hid (DS w W q v n (.slice A1 all.length c1) all gg cg N w4.heap.size (List.replicate all.length false) (List.range N)) :=
    ⟨HC4.out.below hb9, grownBy_below HG4.out hb9, HA4.out.below hb9, HO4.out.below hb9, k9, HLG.out, hg4u, HQ.out⟩
  have HW := Lib.hid hW
  clear hW k9 hb9
  go_wp2_with fail
  rw [← HW.out]
  obtain ⟨nb, hnb⟩ : ∃ nb, w4.heap.size = nb := ⟨_, rfl⟩
  rw [hnb] at HD0 ⊢
  clear hnb HW hmk
  have hmul := HMUL.out
  go_loopw [10] (fun s wr => ∃ (c : Nat) (us : List Bool) (gs : List Nat), s = .int .i64 (c : Int) ∧ c + 1 ≤ N ∧ Hid (DS w wr q v n (.slice A1 all.length c1) all gg cg N nb us gs) ∧ Hid (TInv N a all us gs c)) (fun s _ => N - (intOf s).toNat)
  case atStart => exact ⟨0, _, _, rfl, by omega, HD0, HST⟩
  case round =>
    obtain ⟨c, us, gs, rfl, hcN, HD, HT⟩ := hrel
    have hul := HT.out.ul
    have hgl := HT.out.gl
    by_cases hlt : c + 1 < N
    · have ht : decide ((c : Int) < (N : Int) - 1) = true := by simp only [decide_eq_true_eq]; omega
      have HEX := Lib.hid (HMO.out us gs c HT.out hlt)
      have hm1 : 1 ≤ all.length := by obtain ⟨j, hj, _⟩ := HEX.out; omega
      go_wp2_with fail
      refine (below_any q n v (all.length : Int) wr HD.out.cur (by omega) (by omega)).mono ?_
      rintro e w5 ⟨r, ⟨hr0, hr1⟩, rfl, hc5, hg5⟩
      obtain ⟨kk, rfl⟩ := Int.eq_ofNat_of_zero_le hr0
      have hkk : kk < all.length := by omega
      have HD5 := Lib.hid (HD.out.draw hc5 hg5)
      clear hc5 hg5 hr0 hr1
      go_wp2_with fail
      go_loopw [10, 12] (fun s10 s wr2 => ∃ i : Nat, i ≤ all.length ∧ s10 = .int .i64 (c : Int) ∧ s = .int .i64 (i : Int) ∧ Hid (DS w wr2 q v n (.slice A1 all.length c1) all gg cg N nb us gs) ∧ Hid (∀ i', i' < i → us.getD ((kk + i') % all.length) false = true ∨ ∃ h : (kk + i') % all.length < all.length, gi gs (lkN a all[(kk + i') % all.length]).1 = gi gs (lkN a all[(kk + i') % all.length]).2)) (fun _ s _ => all.length - (intOf s).toNat)
      case atStart => exact ⟨0, Nat.zero_le _, rfl, rfl, HD5, fun i' h => by omega⟩
      case round =>
        obtain ⟨i, hi, rfl, rfl, HDi, HNO⟩ := hrel
        have hk0 : (0 : Int) ≤ (i : Int) := by omega
        by_cases hil : i < all.length
        · have hti : decide ((i : Int) < (all.length : Int)) = true := by simp only [decide_eq_true_eq]; omega
          obtain ⟨jj, HJJ⟩ : ∃ jj, Hid ((kk + i) % all.length = jj) := ⟨_, rfl⟩
          have hjj : jj < all.length := by rw [← HJJ.out]; exact Nat.mod_lt _ (by omega)
          have hmod : ((kk : Int) + (i : Int)) % (all.length : Int) = (jj : Int) := by rw [← HJJ.out]; simp
          have hj0 : (0 : Int) ≤ (jj : Int) := by omega
          have hj1 : (jj : Int) < (all.length : Int) := by omega
          have hne0 : ((all.length : Int) == 0) = false := by rw [beq_eq_false_iff_ne]; omega
          obtain ⟨Ar, cr, hvr, _, _, Gr⟩ := RdT.of (E := elLink) rfl (fun _ => rfl) (HDi.out.ol.rd okLink)
          obtain ⟨ad, hA1, hbl, r1', r2', r3'⟩ := Gr.out jj hjj
          have hAe : A1 = Ar := by simp at hvr; exact hvr.1
          rw [hA1] at hAe
          subst hAe
          clear hvr Gr hA1 hbl
          have HX : Hid (all[jj] = (lx all jj, ly all jj, ld all jj)) := lk_at _ _ hjj
          have hlk := HIN.out _ (List.getElem_mem hjj)
          rw [HX.out] at hlk
          generalize lx all jj = x at *
          generalize ly all jj = y at *
          generalize ld all jj = z at *
          obtain ⟨pa, pb, ha, hb', i1, i2, i3, i4, i5, i6⟩ := lk_ends hlk
          have HA := Lib.hid ha; have HBB := Lib.hid hb'; have HLN : Hid (lkN a all[jj] = (pa, pb)) := by unfold Hid; rw [HX.out]; exact i4
          clear ha hb' i4 hlk
          go_wp2_with fail
          refine (l23Ends_any _ _ _ _ _ (by omega) (by omega) (by omega) (by omega) (by omega) (by omega)).mono ?_
          rintro e w6 ⟨rfl, hb6⟩
          rw [HA.out, HBB.out]
          have HD6 := Lib.hid (HDi.out.below hb6)
          clear hb6 r1' r2' r3'
          obtain ⟨uc, uf⟩ := HD6.out.used (j := jj) (by omega)
          cases hu : us.getD jj false
          · rw [hu] at uc
            go_wp2_with fail
            refine (l23Join_any gg cg N w.heap.size pa pb gs _ HD6.out.og hgl (by omega) (by omega) (by omega)).mono ?_
            rintro e w7 ⟨rfl, hO7, hg7⟩
            have HD7 := Lib.hid (HD6.out.join hO7 hg7)
            clear hO7 hg7 uc uf
            by_cases hj : gi gs pa = gi gs pb
            · rw [show decide (gi gs pa ≠ gi gs pb) = false by simp [hj]]
              have HD8 : Hid (DS w w7 q v n (.slice (some ad) all.length c1) all gg cg N nb us gs) := by
                have h9 := HD7.out
                rw [join_same gs pa pb hj] at h9
                exact h9
              have HNO2 : Hid (∀ i', i' < i + 1 → us.getD ((kk + i') % all.length) false = true ∨ ∃ h : (kk + i') % all.length < all.length, gi gs (lkN a all[(kk + i') % all.length]).1 = gi gs (lkN a all[(kk + i') % all.length]).2) := fun i' h => by
                by_cases e9 : i' = i
                · subst e9
                  refine .inr ⟨Nat.mod_lt _ (by omega), ?_⟩
                  simp only [HJJ.out, HLN.out]
                  exact hj
                · exact HNO.out i' (by omega)
              clear hj
              go_wp2_with fail
              go_roundw
              case rel => exact ⟨i + 1, by omega, rfl, by go_num, HD8, HNO2⟩
              case measure => simp [intOf]; omega
            · rw [show decide (gi gs pa ≠ gi gs pb) = true by simp [hj]]
              have HT8 : Hid (TInv N a all (us.set jj true) (joinF gs (pa, pb)) (c + 1)) := by
                have h9 := HT.out.step hjj hu (by rw [HLN.out]; exact hj)
                rw [HLN.out] at h9
                exact h9
              obtain ⟨uc, uf⟩ := HD7.out.used (j := jj) (by omega)
              have HD8 := Lib.hid (HD7.out.mark jj)
              clear hj
              go_wp2_with fail
              go_roundw
              case rel => exact ⟨c + 1, _, _, by go_num, by omega, HD8, HT8⟩
              case measure => simp [intOf]; omega
          · rw [hu] at uc
            have HNO2 : Hid (∀ i', i' < i + 1 → us.getD ((kk + i') % all.length) false = true ∨ ∃ h : (kk + i') % all.length < all.length, gi gs (lkN a all[(kk + i') % all.length]).1 = gi gs (lkN a all[(kk + i') % all.length]).2) := fun i' h => by
              by_cases e9 : i' = i
              · subst e9
                rw [HJJ.out]
                exact .inl hu
              · exact HNO.out i' (by omega)
            go_wp2_with fail
            go_roundw
            case rel => exact ⟨i + 1, by omega, rfl, by go_num, HD6, HNO2⟩
            case measure => simp [intOf]; omega
        · exfalso
          obtain ⟨j, hj, hu, hne⟩ := HEX.out
          obtain ⟨i', hi', he⟩ := ring hkk hj
          rcases HNO.out i' (by omega) with h9 | ⟨h9, h8⟩
          · rw [he, hu] at h9; simp at h9
          · simp only [he] at h8
            exact hne h8
    · have ht : decide ((c : Int) < (N : Int) - 1) = false := by simp only [decide_eq_false_iff_not]; omega
      have HTB := Lib.hid (HTR.out us gs c HT.out (by omega))
      have HA7 : Hid (Acc elLink wr wr.heap.size (wr.alloc (.cells #[] 101)) (.slice (some ⟨wr.heap.size, 0, none⟩) 0 0) (outF (all.take 0) (us.take 0))) := by
        have : outF (all.take 0) (us.take 0) = [] := by simp [outF]
        rw [this]
        exact Acc.start wr
      have HOT := Lib.hid (fun k hk => outF_take all us k hk hul.symm)
      have HAF : Hid (outF (all.take all.length) (us.take all.length) = outF all us) := by unfold Hid; rw [List.take_length, ← hul, List.take_length]
      have HLE := Lib.hid (fun k => outF_le (all.take k) (us.take k))
      go_wp2_with fail
      go_loopw [16, 17] (fun o s wr2 => ∃ (k : Nat) (u : Value), k ≤ all.length ∧ s = .int .i64 (k : Int) ∧ u = o ∧ Hid (Acc elLink wr wr.heap.size wr2 u (outF (all.take k) (us.take k)))) (fun _ s _ => all.length - (intOf s).toNat)
      case atStart => exact ⟨0, _, Nat.zero_le _, rfl, rfl, HA7⟩
      case round =>
        obtain ⟨k, u, hk, rfl, rfl, HAk⟩ := hrel
        obtain ⟨A2, ca, hv, q1, q2, _⟩ := HAk.out.1.rd okLink
        have hle := HLE.out k
        rw [List.length_take] at hle
        have HDk := Lib.hid (HD.out.below HAk.out.2.1)
        have hk0 : (0 : Int) ≤ (k : Int) := by omega
        by_cases hkl : k < all.length
        · have htk : decide ((k : Int) < (all.length : Int)) = true := by simp only [decide_eq_true_eq]; omega
          have hk1 : (k : Int) < (all.length : Int) := by omega
          obtain ⟨uc, uf⟩ := HDk.out.used (j := k) (by omega)
          have HOK := Lib.hid (HOT.out k hkl)
          cases hu : us.getD k false
          · rw [hu] at uc
            have HE : Hid (outF (all.take (k + 1)) (us.take (k + 1)) = outF (all.take k) (us.take k)) := by unfold Hid; rw [HOK.out, hu]; simp
            go_wp2_with fail
            go_roundw
            case rel => exact ⟨k + 1, _, by omega, by go_num, rfl, by rw [HE.out]; exact HAk⟩
            case measure => simp [intOf]; omega
          · rw [hu] at uc
            obtain ⟨Ar, cr, hvr, _, _, Gr⟩ := RdT.of (E := elLink) rfl (fun _ => rfl) (HDk.out.ol.rd okLink)
            obtain ⟨ad, hA1, hbl, r1', r2', r3'⟩ := Gr.out k hkl
            have hAe : A1 = Ar := by simp at hvr; exact hvr.1
            rw [hA1] at hAe
            subst hAe
            clear hvr Gr hA1 hbl
            have HX : Hid (all[k] = (lx all k, ly all k, ld all k)) := lk_at _ _ hkl
            have HE : Hid (outF (all.take (k + 1)) (us.take (k + 1)) = outF (all.take k) (us.take k) ++ [(lx all k, ly all k, ld all k)]) := by unfold Hid; rw [HOK.out, hu, HX.out]; simp
            generalize lx all k = x at *
            generalize ly all k = y at *
            generalize ld all k = z at *
            generalize outF (all.take k) (us.take k) = ys at *
            subst hv
            unfold maxLen at q2
            go_wp2_with (at_builtin; refine wpList_push okLink rfl _ _ rfl HAk.out rfl (x, y, z) _ rfl _ rfl rfl (by omega) ?_; intro v10 w10 HA10 HG10)
            go_roundw
            case rel => exact ⟨k + 1, _, by omega, by go_num, rfl, by rw [HE.out]; exact HA10⟩
            case measure => simp [intOf]; omega
        · obtain rfl : k = all.length := by omega
          have htk : decide ((all.length : Int) < (all.length : Int)) = false := by simp
          have HO9 : Hid (OwnF elLink wr w.heap.size u (outF all us)) := by
            have h9 := HAk.out.1
            rw [HAF.out] at h9
            exact h9.mono HD.out.gr.size
          go_wp2_with fail
          go_ret3
          exact ⟨a, b, outF all us, _, hg, HTB.out, rfl, HO9.out, HDk.out.cur, HDk.out.gr⟩
end Go.Proofs.Ytiecphhenpapoaa
