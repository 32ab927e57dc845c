/- What the claim's walk rests on: parts IsTree, Choose, Spot, Set, Reg, Dom, TriDomino, Covered. -/
import Derived.Test.YtehnbalbpfmijaaKu4
import Derived.Test.YtehnbalbpfmijaaBasic
import Derived.Test.YtehnbalbpfmijaaMem
import Derived.Test.YtehnbalbpfmijaaKu1
import Derived.IntWalk
import Derived.Deep.RegionHeld3
import Derived.Deep.QuietTactic
import Derived.BigQuiet
import Derived.Laws.BitsAllLaws
import Derived.Lib.Zigzag
import Derived.StillTailTactics
import Derived.Deep.RegionLaw
namespace Go.Proofs.Ytehnbalbpfmijaa
open Go.RowKit
set_option linter.unusedVariables false

/-! ### The plain law -/
def treeB (w h : Int) (ls : List Lk) : Bool := gridB w h && (decide ((ls.length : Int) = w * h - 1) && ((ls.all fun l => (linksZ w h).contains l) && okAll (List.range (w.toNat * h.toNat)) (ls.map (lkN w.toNat))))
theorem treeB_no {w h : Int} {ls : List Lk} (hx : gridB w h = false) : treeB w h ls = false := by simp [treeB, hx]
theorem treeB_len {w h : Int} {ls : List Lk} (hx : ¬ (ls.length : Int) = w * h - 1) : treeB w h ls = false := by simp [treeB, hx]
theorem lkEq_iff (ls : List Lk) (x y : Int) (d : Bool) (i : Nat) (hi : i < ls.length) : lkEq ls x y d i = true ↔ ls[i] = (x, y, d) := by
  rw [lk_at _ _ hi]; simp [lkEq]
theorem lkEq_none (ls : List Lk) (x y : Int) (d : Bool) : fstZ (lkEq ls x y d) ls.length 0 < 0 ↔ (x, y, d) ∉ ls := by
  rcases fstZ_spec (lkEq ls x y d) ls.length 0 with ⟨h1, h2⟩ | ⟨j, h1, _, h3, h4, _⟩
  · rw [h1]
    refine ⟨fun _ hm => ?_, fun _ => by omega⟩
    obtain ⟨i, hi, e⟩ := List.getElem_of_mem hm
    have := h2 i (by omega) (by omega)
    rw [(lkEq_iff ls x y d i hi).2 e] at this; simp at this
  · rw [h1]
    refine ⟨fun h => by omega, fun h => absurd ?_ h⟩
    rw [← (lkEq_iff ls x y d j (by omega)).1 h4]; exact List.getElem_mem _
/-- Each link is there once. -/
def Once (ls : List Lk) (k : Nat) : Prop := ∀ j, (h : j < ls.length) → j < k → fstZ (lkEq ls (lx ls j) (ly ls j) (ld ls j)) ls.length 0 = (j : Int)
theorem once_ne {ls : List Lk} {i j : Nat} (hj : j < ls.length) (hij : i < j) (h : ls[i]'(by omega) = ls[j]) : fstZ (lkEq ls (lx ls j) (ly ls j) (ld ls j)) ls.length 0 ≠ (j : Int) := by
  intro e
  rcases fstZ_spec (lkEq ls (lx ls j) (ly ls j) (ld ls j)) ls.length 0 with ⟨h1, _⟩ | ⟨j', h1, _, _, _, h5⟩
  · omega
  · have : j' = j := by omega
    subst this
    have := h5 i (by omega) hij
    rw [(lkEq_iff ls _ _ _ i (by omega)).2 (by rw [h, lk_at _ _ hj])] at this
    simp at this
theorem ne_once {ls : List Lk} {j : Nat} (hj : j < ls.length) (h : fstZ (lkEq ls (lx ls j) (ly ls j) (ld ls j)) ls.length 0 ≠ (j : Int)) : ∃ i, ∃ hi : i < j, ls[i]'(by omega) = ls[j] := by
  have hp : lkEq ls (lx ls j) (ly ls j) (ld ls j) j = true := (lkEq_iff ls _ _ _ j hj).2 (lk_at _ _ hj)
  rcases fstZ_spec (lkEq ls (lx ls j) (ly ls j) (ld ls j)) ls.length 0 with ⟨_, h2⟩ | ⟨i, h1, _, h3, h4, h5⟩
  · have := h2 j (by omega) (by omega); rw [hp] at this; simp at this
  · rcases Nat.lt_trichotomy i j with c | c | c
    · exact ⟨i, c, by rw [(lkEq_iff ls _ _ _ i (by omega)).1 h4, ← lk_at _ _ hj]⟩
    · subst c; exact absurd h1 h
    · have := h5 j (by omega) c; rw [hp] at this; simp at this
/-- All valid: the ends of the links are posts. -/
theorem ends_lt {a b : Nat} (hg : gridB a b = true) {ls : List Lk} (h : ∀ l ∈ ls, l ∈ linksZ a b) : ∀ e ∈ ls.map (lkN a), e.1 < a * b ∧ e.2 < a * b := by
  intro e he
  obtain ⟨⟨x, y, d⟩, hm, rfl⟩ := List.mem_map.1 he
  obtain ⟨p, q, _, _, h3, h4, _, h5, _⟩ := lk_ends ((tree_facts a b hg).1 _ (h _ hm))
  rw [h5]; exact ⟨h3, h4⟩
/-- Two alike: no tree. -/
theorem treeB_twice {a b : Nat} {ls : List Lk} {i j : Nat} (hj : j < ls.length) (hij : i < j) (h : ls[i]'(by omega) = ls[j]) : treeB a b ls = false := by
  cases ht : treeB a b ls
  · rfl
  · unfold treeB at ht
    simp only [Bool.and_eq_true, List.all_eq_true] at ht
    obtain ⟨hg, _, hin, hok⟩ := ht
    have hin' : ∀ l ∈ ls, l ∈ linksZ a b := fun l hl => by simpa using hin l hl
    have hnd := (ok_pair (ls.map (lkN a)) (List.range (a * b)) (a * b) (by simp) (ends_lt hg hin') (by simpa using hok)).1
    refine absurd ?_ (List.pairwise_iff_getElem.1 hnd i j (by rw [List.length_map]; omega) (by rw [List.length_map]; omega) hij)
    rw [List.getElem_map, List.getElem_map, h]
theorem treeB_out {a b : Nat} {ls : List Lk} {j : Nat} (hj : j < ls.length) (h : ls[j] ∉ linksZ a b) : treeB a b ls = false := by
  cases ht : treeB a b ls
  · rfl
  · unfold treeB at ht
    simp only [Bool.and_eq_true, List.all_eq_true] at ht
    exact absurd (by simpa using ht.2.2.1 _ (List.getElem_mem hj)) h
/-- The answer at the end. -/
theorem treeB_end {a b : Nat} {ls : List Lk} {zs : List Int} (hg : gridB a b = true) (hl : (ls.length : Int) = (a : Int) * (b : Int) - 1) (hin : ∀ j, (h : j < ls.length) → ls[j] ∈ linksZ a b)
    (hz : zs.length = a * b) (hlow : ∀ i, i < a * b → -1 ≤ el zs i) (hc : ∀ i, i < a * b → (0 ≤ el zs i ↔ Con (ls.map (lkN a)) 0 i)) : decide (fstZ (fun i => el zs i == -1) zs.length 0 < 0) = treeB a b ls := by
  have hin' : ∀ l ∈ ls, l ∈ linksZ a b := fun l hl => by obtain ⟨j, hj, rfl⟩ := List.getElem_of_mem hl; exact hin j hj
  have hb := (gridB_iff _ _).1 hg
  have hp : 0 < a * b := Nat.mul_pos (by omega) (by omega)
  have hll : ls.length = a * b - 1 := by have : (a : Int) * (b : Int) = ((a * b : Nat) : Int) := by simp
                                         omega
  have ht := tree_iff (n := a * b) (ls.map (lkN a)) hp (by rw [List.length_map]; exact hll) (ends_lt hg hin')
  have e0 : treeB a b ls = okAll (List.range (a * b)) (ls.map (lkN a)) := by
    have : (ls.all fun l => (linksZ a b).contains l) = true := by rw [List.all_eq_true]; intro l h9; simpa using hin' l h9
    unfold treeB
    rw [hg, this, decide_eq_true hl]
    simp
  rw [e0, Bool.eq_iff_iff, decide_eq_true_iff, ht]
  rcases fstZ_spec (fun i => el zs i == -1) zs.length 0 with ⟨h1, h2⟩ | ⟨j, h1, _, h3, h4, _⟩
  · rw [h1]
    refine ⟨fun _ i hi => (hc i hi).1 ?_, fun _ => by omega⟩
    have := h2 i (by omega) (by omega)
    have hne : el zs i ≠ -1 := by simpa using this
    have := hlow i hi
    omega
  · rw [h1]
    refine ⟨fun h => by omega, fun h => ?_⟩
    have := (hc j (by omega)).2 (h j (by omega))
    have : el zs j = -1 := by simpa using h4
    omega
/-- One link after the other. -/
theorem ok_drop {g : List Nat} {es : List (Nat × Nat)} {k : Nat} (hk : k < es.length) : okAll g (es.drop k) = if gi g es[k].1 = gi g es[k].2 then false else okAll (joinF g es[k]) (es.drop (k + 1)) := by
  rw [List.drop_eq_getElem_cons hk, okAll]

/-! ### The program -/
set_option maxRecDepth 100000 in
set_option maxHeartbeats 8000000 in
theorem IsTree_any (p q : Int) (u : Value) (ls : List Lk) (B : Nat) (w : World) (hu : RdF elLink w B u ls) (hB : B ≤ w.heap.size) :
    Calls Try.prog 99 #[.int .i64 p, .int .i64 q, u] w fun e w' => e = .returned (.bool (treeB p q ls)) ∧ Below w.heap.size w w' := by
  have HU := Lib.hid hu
  obtain ⟨A, c, rfl, g1, g2, G3⟩ := RdT.of (E := elLink) rfl (fun _ => rfl) hu
  unfold maxLen at g2
  clear hu
  cases hg : gridB p q
  · rw [treeB_no hg]
    go_enter Try.func99, Try.ntmps99
    go_wp2_with fail
    refine (GridOk_any _ _ _).mono ?_
    rintro e w1 ⟨rfl, rfl⟩
    rw [hg]
    go_wp2_with fail
    go_ret
    exact ⟨rfl, Below.refl _ _⟩
  · have hb := (gridB_iff _ _).1 hg
    obtain ⟨a, rfl⟩ := Int.eq_ofNat_of_zero_le (show 0 ≤ p by omega)
    obtain ⟨b, rfl⟩ := Int.eq_ofNat_of_zero_le (show 0 ≤ q by omega)
    have hab16 : a * b ≤ 16 := Nat.mul_le_mul (show a ≤ 4 by omega) (show b ≤ 4 by omega)
    have hab1 : 0 < a * b := Nat.mul_pos (by omega) (by omega)
    have hm : (a : Int) * (b : Int) = ((a * b : Nat) : Int) := by simp
    have m1 : 0 < (a : Int) * (b : Int) := by omega
    have m2 : (a : Int) * (b : Int) ≤ 16 := by omega
    by_cases hlen : (ls.length : Int) = (a : Int) * (b : Int) - 1
    · have t1 : ((ls.length : Int) != (a : Int) * (b : Int) - 1) = false := by simp [hlen]
      have HLEN := Lib.hid hlen
      obtain ⟨all, HALL⟩ : ∃ x, Hid (linksZ (a : Int) b = x) := ⟨_, rfl⟩
      clear hlen hm
      go_enter Try.func99, Try.ntmps99
      go_wp2_with fail
      refine (GridOk_any _ _ _).mono ?_
      rintro e w1 ⟨rfl, rfl⟩
      rw [hg]
      go_wp2_with fail
      refine (LinksOf_any _ _ _).mono ?_
      rintro e w1 ⟨v1, rfl, ho1, hb1⟩
      rw [HALL.out] at ho1
      have HO1 := Lib.hid ho1
      have HB1 := Lib.hid hb1
      clear ho1 hb1
      go_wp2_with fail
      go_loopw [28] (fun s wr => ∃ k : Nat, k ≤ ls.length ∧ s = .int .i64 k ∧ Hid (Below w1.heap.size w1 wr) ∧ Hid (∀ j, (h : j < ls.length) → j < k → ls[j] ∈ all) ∧ Hid (Once ls k)) (fun s _ => ls.length - (intOf s).toNat)
      case atStart => exact ⟨0, Nat.zero_le _, rfl, Below.refl _ _, fun j _ h => by omega, fun j _ h => by omega⟩
      case round =>
        obtain ⟨k, hk, rfl, HB, HIN, HON⟩ := hrel
        by_cases hlt : k < ls.length
        · have ht : decide ((k : Int) < (ls.length : Int)) = true := by simp only [decide_eq_true_eq]; omega
          obtain ⟨ad, rfl, had, hx, hy, hz⟩ := G3.out k hlt
          have hbw := HB1.out.trans (HB.out.mono HB1.out.size)
          have hx' := (hbw.cell (p := ad.add (k * 3)) (by rw [addBlock]; omega)).trans hx
          have hy' := (hbw.cell (p := ⟨(ad.add (k * 3)).block, (ad.add (k * 3)).off + 1, none⟩) (by show (ad.add (k * 3)).block < _; rw [addBlock]; omega)).trans hy
          have hz' := (hbw.cell (p := ⟨(ad.add (k * 3)).block, (ad.add (k * 3)).off + 2, none⟩) (by show (ad.add (k * 3)).block < _; rw [addBlock]; omega)).trans hz
          have hk0 : (0 : Int) ≤ (k : Int) := by omega
          have hk1 : (k : Int) < (ls.length : Int) := by omega
          have hlk := lk_at ls k hlt
          have HMEM : Hid (fstZ (lkEq all (lx ls k) (ly ls k) (ld ls k)) all.length 0 < 0 ↔ ls[k] ∉ all) := by unfold Hid; rw [hlk]; exact lkEq_none _ _ _ _
          have HOUT : Hid (ls[k] ∉ all → treeB a b ls = false) := fun h => treeB_out hlt (by rw [HALL.out]; exact h)
          have HTW : Hid (fstZ (lkEq ls (lx ls k) (ly ls k) (ld ls k)) ls.length 0 ≠ (k : Int) → treeB a b ls = false) := fun h => by
            obtain ⟨i, hi, e⟩ := ne_once hlt h
            exact treeB_twice hlt hi e
          have HIN2 : Hid (ls[k] ∈ all → ∀ j, (h : j < ls.length) → j < k + 1 → ls[j] ∈ all) := fun h j hj hjk => by
            by_cases e : j = k
            · subst e; exact h
            · exact HIN.out j hj (by omega)
          have HON2 : Hid (fstZ (lkEq ls (lx ls k) (ly ls k) (ld ls k)) ls.length 0 = (k : Int) → Once ls (k + 1)) := fun h j hj hjk => by
            by_cases e : j = k
            · subst e; exact h
            · exact HON.out j hj (by omega)
          have HAL := Lib.hid (hbw.trans (((Below.refl wr.heap.size wr).alloc (Nat.le_refl _) (.cells #[.int .i64 (lx ls k), .int .i64 (ly ls k), .bool (ld ls k)] 68)).mono hbw.size))
          have HAL2 := Lib.hid (HB.out.trans (((Below.refl wr.heap.size wr).alloc (Nat.le_refl _) (.cells #[.int .i64 (lx ls k), .int .i64 (ly ls k), .bool (ld ls k)] 68)).mono HB.out.size))
          have hblk := heap_alloc_new wr (.cells #[.int .i64 (lx ls k), .int .i64 (ly ls k), .bool (ld ls k)] 68)
          have HBLK := Lib.hid hblk
          clear hx hy hz hbw hlk HIN HON hblk
          generalize lx ls k = x at *
          generalize ly ls k = y at *
          generalize ld ls k = d at *
          go_wp2_with fail
          refine (linkIndex_any _ all _ _ _ _ _ ((HO1.out.rd okLink).below HAL2.out) HAL2.out.size).mono ?_
          rintro e w3 ⟨rfl, hb3⟩
          have hbk := (hb3.block wr.heap.size (by simp)).trans HBLK.out
          have HB3 := Lib.hid (HAL.out.trans (hb3.mono HAL.out.size))
          have HB3' := Lib.hid (HAL2.out.trans (hb3.mono HAL2.out.size))
          have b0 : w3.cell? ⟨wr.heap.size, 0, none⟩ = some (.int .i64 x) := by rw [blk_cell hbk]; rfl
          have b1 : w3.cell? ⟨wr.heap.size, 1, none⟩ = some (.int .i64 y) := by rw [blk_cell hbk]; rfl
          have b2 : w3.cell? ⟨wr.heap.size, 2, none⟩ = some (.bool d) := by rw [blk_cell hbk]; rfl
          clear hb3 hbk HAL HAL2 HBLK
          generalize fstZ (lkEq all x y d) all.length 0 = z1 at *
          by_cases hz1 : z1 < 0
          · have HF := Lib.hid (HOUT.out (HMEM.out.1 hz1))
            clear HOUT HMEM HTW HIN2 HON2
            go_wp2_with fail
            go_ret
            exact ⟨ret_bool HF.out.symm, HB3.out⟩
          · have hmem : ls[k] ∈ all := Decidable.byContradiction fun h => hz1 (HMEM.out.2 h)
            have HIN3 := Lib.hid (HIN2.out hmem)
            clear HOUT HMEM HIN2 hmem
            go_wp2_with fail
            refine (linkIndex_any _ ls _ _ _ _ _ (HU.out.below (HB3.out.mono hB)) (Nat.le_trans hB HB3.out.size)).mono ?_
            rintro e w4 ⟨rfl, hb4⟩
            have HB4 := Lib.hid (HB3.out.trans (hb4.mono HB3.out.size))
            have HB4' := Lib.hid (HB3'.out.trans (hb4.mono HB3'.out.size))
            clear hb4 b0 b1 b2
            generalize fstZ (lkEq ls x y d) ls.length 0 = z2 at *
            by_cases hz2 : z2 = (k : Int)
            · have HON3 := Lib.hid (HON2.out hz2)
              subst hz2
              have hnn : ((k : Int) != (k : Int)) = false := by simp
              clear HTW HON2
              go_wp2_with fail
              go_roundw
              case rel => exact ⟨k + 1, by omega, by go_num, HB4', HIN3, HON3⟩
              case measure => simp [intOf]; omega
            · have HF := Lib.hid (HTW.out hz2)
              have hnn : (z2 != (k : Int)) = true := by rw [bne_iff_ne]; exact hz2
              clear HTW HON2
              go_wp2_with fail
              go_ret
              exact ⟨ret_bool HF.out.symm, HB4.out⟩
        · have ht : decide ((k : Int) < (ls.length : Int)) = false := by simp only [decide_eq_false_iff_not]; omega
          have HIN2 : Hid (∀ j, (h : j < ls.length) → ls[j] ∈ linksZ a b) := fun j hj => by rw [HALL.out]; exact HIN.out j hj (by omega)
          have hbw := Lib.hid (HB1.out.trans (HB.out.mono HB1.out.size))
          go_wp2_with fail
          refine (rooted_any a b (a * b) _ ls _ _ (HU.out.below (hbw.out.mono hB)) (Nat.le_trans hB hbw.out.size) (by omega) (by omega) rfl (fun l hl => (tree_facts a b hg).1 l (by obtain ⟨j, hj, rfl⟩ := List.getElem_of_mem hl; exact HIN2.out j hj))).mono ?_
          rintro e w3 ⟨v3, zs, rfl, hr3, hz1, hz2, hz3, hb3, _⟩
          have HE := Lib.hid (treeB_end hg HLEN.out HIN2.out hz1 hz2 hz3)
          have HR3 := Lib.hid hr3
          have HB3 := Lib.hid (hbw.out.trans (hb3.mono hbw.out.size))
          clear hr3 hz1 hz2 hz3 hb3
          go_wp2_with fail
          refine (indexOf_any _ zs _ _ _ HR3.out).mono ?_
          rintro e w4 ⟨rfl, rfl⟩
          generalize fstZ (fun i => el zs i == -1) zs.length 0 = z at *
          go_wp2_with fail
          go_ret
          exact ⟨ret_bool HE.out, HB3.out⟩
    · rw [treeB_len hlen]
      have t1 : ((ls.length : Int) != (a : Int) * (b : Int) - 1) = true := by rw [bne_iff_ne]; exact hlen
      clear hlen hm
      go_enter Try.func99, Try.ntmps99
      go_wp2_with fail
      refine (GridOk_any _ _ _).mono ?_
      rintro e w1 ⟨rfl, rfl⟩
      rw [hg]
      go_wp2_with fail
      go_ret
      exact ⟨rfl, Below.refl _ _⟩

/-! ### The reference -/
set_option maxRecDepth 100000 in
set_option maxHeartbeats 8000000 in
theorem specIsTree_any (p q : Int) (u : Value) (ls : List Lk) (B : Nat) (w : World) (hu : RdF elLink w B u ls) (hB : B ≤ w.heap.size) :
    Calls Try.prog 50 #[.int .i64 p, .int .i64 q, u] w fun e w' => e = .returned (.bool (treeB p q ls)) ∧ Below w.heap.size w w' := by
  have HU := Lib.hid hu
  obtain ⟨A, c, rfl, g1, g2, G3⟩ := RdT.of (E := elLink) rfl (fun _ => rfl) hu
  unfold maxLen at g2
  clear hu
  cases hg : gridB p q
  · rw [treeB_no hg]
    go_enter Try.func50, Try.ntmps50
    go_wp2_with fail
    refine (specGridOk_any _ _ _).mono ?_
    rintro e w1 ⟨rfl, rfl⟩
    rw [hg]
    go_wp2_with fail
    go_ret
    exact ⟨rfl, Below.refl _ _⟩
  · have hb := (gridB_iff _ _).1 hg
    obtain ⟨a, rfl⟩ := Int.eq_ofNat_of_zero_le (show 0 ≤ p by omega)
    obtain ⟨b, rfl⟩ := Int.eq_ofNat_of_zero_le (show 0 ≤ q by omega)
    have hab16 : a * b ≤ 16 := Nat.mul_le_mul (show a ≤ 4 by omega) (show b ≤ 4 by omega)
    have hab1 : 0 < a * b := Nat.mul_pos (by omega) (by omega)
    have hm : (a : Int) * (b : Int) = ((a * b : Nat) : Int) := by simp
    have m1 : 0 < (a : Int) * (b : Int) := by omega
    have m2 : (a : Int) * (b : Int) ≤ 16 := by omega
    by_cases hlen : (ls.length : Int) = (a : Int) * (b : Int) - 1
    · have t1 : ((ls.length : Int) != (a : Int) * (b : Int) - 1) = false := by simp [hlen]
      have HLEN := Lib.hid hlen
      have hall := linksZ_len a b
      obtain ⟨all, HALL⟩ : ∃ x, Hid (linksZ (a : Int) b = x) := ⟨_, rfl⟩
      obtain ⟨n, HN⟩ : ∃ x, Hid (a * b = x) := ⟨_, rfl⟩
      rw [HN.out] at hm hab16 hab1
      rw [HALL.out] at hall
      have HM := Lib.hid hm
      obtain ⟨es, HES⟩ : ∃ x, Hid (ls.map (lkN a) = x) := ⟨_, rfl⟩
      have HEL : Hid (es.length = ls.length) := by unfold Hid; rw [← HES.out, List.length_map]
      clear hlen hm
      go_enter Try.func50, Try.ntmps50
      go_wp2_with fail
      refine (specGridOk_any _ _ _).mono ?_
      rintro e w1 ⟨rfl, rfl⟩
      rw [hg]
      go_wp2_with fail
      refine (specLinksOf_any _ _ _).mono ?_
      rintro e w1 ⟨v1, rfl, ho1, hb1⟩
      rw [HALL.out] at ho1
      obtain ⟨A1, c1, hv1, gg1, gg2, GG3⟩ := RdT.of (E := elLink) rfl (fun _ => rfl) (ho1.rd okLink)
      unfold maxLen at gg2
      subst hv1
      have HB1 := Lib.hid hb1
      clear ho1 hb1
      go_wp2_with fail
      rw [HM.out]
      refine (l23Groups_any n _ (by omega)).mono ?_
      rintro e w2 ⟨v2, rfl, ho2, hb2⟩
      obtain ⟨gg, cg, hv2, hgb, hgl⟩ := World.ownsRow.form ho2 (by rw [natI_length]; simp; exact hab1)
      rw [natI_length, List.length_range] at hv2
      subst hv2
      have HB2 := Lib.hid (HB1.out.trans (hb2.mono HB1.out.size))
      have HB2' := Lib.hid hb2
      have HO2 := Lib.hid ho2
      have HRUN : Hid (treeB a b ls = (decide (∀ j, (h : j < ls.length) → 0 ≤ j → ls[j] ∈ all) && okAll (List.range n) (es.drop 0))) := by
        unfold Hid treeB
        rw [hg, decide_eq_true HLEN.out, Bool.true_and, Bool.true_and, List.drop_zero, Int.toNat_natCast, Int.toNat_natCast, HN.out, HES.out, HALL.out]
        congr 1
        rw [Bool.eq_iff_iff, decide_eq_true_iff, List.all_eq_true]
        refine ⟨fun h j hj _ => by simpa using h _ (List.getElem_mem hj), fun h l hl => ?_⟩
        obtain ⟨j, hj, rfl⟩ := List.getElem_of_mem hl
        simpa using h j hj (Nat.zero_le _)
      clear ho2 hb2
      go_wp2_with fail
      go_loopw [9] (fun s wr => ∃ (k : Nat) (gs : List Nat), k ≤ ls.length ∧ s = .int .i64 k ∧ Hid (OwnI wr w1.heap.size (.slice (some ⟨gg, 0, none⟩) n cg) (natI gs)) ∧ Hid (Below w1.heap.size w1 wr) ∧ Hid (gs.length = n) ∧ Hid (treeB a b ls = (decide (∀ j, (h : j < ls.length) → k ≤ j → ls[j] ∈ all) && okAll gs (es.drop k)))) (fun s _ => ls.length - (intOf s).toNat)
      case atStart => exact ⟨0, _, Nat.zero_le _, rfl, HO2, HB2', by (unfold Hid; simp), HRUN⟩
      case round =>
        obtain ⟨k, gs, hk, rfl, HO, HB, HGL, HT⟩ := hrel
        by_cases hlt : k < ls.length
        · have ht : decide ((k : Int) < (ls.length : Int)) = true := by simp only [decide_eq_true_eq]; omega
          obtain ⟨ad, rfl, had, hx, hy, hz⟩ := G3.out k hlt
          have hbw := HB1.out.trans (HB.out.mono HB1.out.size)
          have hx' := (hbw.cell (p := ad.add (k * 3)) (by rw [addBlock]; omega)).trans hx
          have hy' := (hbw.cell (p := ⟨(ad.add (k * 3)).block, (ad.add (k * 3)).off + 1, none⟩) (by show (ad.add (k * 3)).block < _; rw [addBlock]; omega)).trans hy
          have hz' := (hbw.cell (p := ⟨(ad.add (k * 3)).block, (ad.add (k * 3)).off + 2, none⟩) (by show (ad.add (k * 3)).block < _; rw [addBlock]; omega)).trans hz
          have hk0 : (0 : Int) ≤ (k : Int) := by omega
          have hk1 : (k : Int) < (ls.length : Int) := by omega
          have hlk := lk_at ls k hlt
          have HLK := Lib.hid hlk
          have HSP : Hid (∀ g : List Nat, okAll g (es.drop k) = if gi g (lkN a (lx ls k, ly ls k, ld ls k)).1 = gi g (lkN a (lx ls k, ly ls k, ld ls k)).2 then false else okAll (joinF g (lkN a (lx ls k, ly ls k, ld ls k))) (es.drop (k + 1))) := by
            intro g
            have hke : k < es.length := by have := HEL.out; omega
            have he : es[k] = lkN a (lx ls k, ly ls k, ld ls k) := by
              have h9 : es[k]? = some (lkN a (lx ls k, ly ls k, ld ls k)) := by rw [← HES.out, List.getElem?_map, lk_get _ _ hlt]; rfl
              rw [List.getElem?_eq_getElem hke] at h9
              exact Option.some.inj h9
            rw [ok_drop hke, he]
          clear hx hy hz hbw hlk
          generalize lx ls k = x at *
          generalize ly ls k = y at *
          generalize ld ls k = d at *
          obtain ⟨W3, HW3⟩ : ∃ W, Hid (W = wr) := ⟨_, rfl⟩
          go_wp2_with fail
          go_loopw [10, 11] (fun t s wr2 => ∃ i : Nat, i ≤ all.length ∧ s = .int .i64 i ∧ t = .bool ((List.range i).any fun j => lkEq all x y d j) ∧ Hid (Drawn W3 wr2)) (fun _ s _ => all.length - (intOf s).toNat)
          case atStart => exact ⟨0, Nat.zero_le _, rfl, rfl, by rw [HW3.out]; exact Drawn.refl _⟩
          case round =>
            obtain ⟨i, hi, rfl, rfl, HD⟩ := hrel
            rw [← HW3.out] at hx' hy' hz' HO HB
            by_cases hli : i < all.length
            · have hti : decide ((i : Int) < (all.length : Int)) = true := by simp only [decide_eq_true_eq]; omega
              obtain ⟨ad2, rfl, had2, ux, uy, uz⟩ := GG3.out i hli
              have hbd := HD.out.below W3.heap.size
              have hi0 : (0 : Int) ≤ (i : Int) := by omega
              have hi1 : (i : Int) < (all.length : Int) := by omega
              have HAS : Hid (((List.range (i + 1)).any fun j => lkEq all x y d j) = (((List.range i).any fun j => lkEq all x y d j) || lkEq all x y d i)) := by unfold Hid; rw [List.range_succ, List.any_append]; simp
              generalize ((List.range i).any fun j => lkEq all x y d j) = r at *
              cases r
              · have hbw := HB1.out.trans (HB.out.mono HB1.out.size)
                have hb12 := HB.out.trans (hbd.mono HB.out.size)
                have wx := (hbd.cell (p := ad.add (k * 3)) (by rw [addBlock]; have := hbw.size; omega)).trans hx'
                have wy := (hbd.cell (p := ⟨(ad.add (k * 3)).block, (ad.add (k * 3)).off + 1, none⟩) (by show (ad.add (k * 3)).block < _; rw [addBlock]; have := hbw.size; omega)).trans hy'
                have wz := (hbd.cell (p := ⟨(ad.add (k * 3)).block, (ad.add (k * 3)).off + 2, none⟩) (by show (ad.add (k * 3)).block < _; rw [addBlock]; have := hbw.size; omega)).trans hz'
                have vx := (hb12.cell (p := ad2.add (i * 3)) (by rw [addBlock]; omega)).trans ux
                have vy := (hb12.cell (p := ⟨(ad2.add (i * 3)).block, (ad2.add (i * 3)).off + 1, none⟩) (by show (ad2.add (i * 3)).block < _; rw [addBlock]; omega)).trans uy
                have vz := (hb12.cell (p := ⟨(ad2.add (i * 3)).block, (ad2.add (i * 3)).off + 2, none⟩) (by show (ad2.add (i * 3)).block < _; rw [addBlock]; omega)).trans uz
                have HE : Hid (lkEq all x y d i = (lx all i == x && (ly all i == y && ld all i == d))) := rfl
                rw [HE.out] at HAS
                clear hx' hy' hz' ux uy uz hbw hb12 HE
                generalize lx all i = p1 at *
                generalize ly all i = p2 at *
                generalize ld all i = p3 at *
                obtain ⟨r2, HR2⟩ : ∃ r2, Hid ((p1 == x && (p2 == y && p3 == d)) = r2) := ⟨_, rfl⟩
                rw [HR2.out] at HAS
                by_cases e1 : p1 = x
                · subst e1
                  by_cases e2 : p2 = y
                  · subst e2
                    by_cases e3 : p3 = d
                    · subst e3
                      have HA2 : Hid (((List.range (i + 1)).any fun j => lkEq all p1 p2 p3 j) = true) := by unfold Hid; rw [HAS.out, ← HR2.out]; simp
                      go_wp2_with fail
                      go_quiet (fail)
                      go_wp2_with fail
                      go_roundw
                      case rel => exact ⟨i + 1, by omega, by go_num, by rw [HA2.out], HD.out.trans ⟨_, rfl⟩⟩
                      case measure => simp [intOf]; omega
                    · have f3 : (p3 == d) = false := by rw [beq_eq_false_iff_ne]; exact e3
                      have HA2 : Hid (((List.range (i + 1)).any fun j => lkEq all p1 p2 d j) = false) := by unfold Hid; rw [HAS.out, ← HR2.out]; simp [e3]
                      clear HAS HR2
                      go_wp2_with fail
                      go_quiet (fail)
                      go_wp2_with fail
                      go_roundw
                      case rel => exact ⟨i + 1, by omega, by go_num, by rw [HA2.out], HD.out.trans ⟨_, rfl⟩⟩
                      case measure => simp [intOf]; omega
                  · have f2 : (p2 == y) = false := by rw [beq_eq_false_iff_ne]; exact e2
                    have HA2 : Hid (((List.range (i + 1)).any fun j => lkEq all p1 y d j) = false) := by unfold Hid; rw [HAS.out, ← HR2.out]; simp [e2]
                    clear HAS HR2
                    go_wp2_with fail
                    go_quiet (fail)
                    go_wp2_with fail
                    go_roundw
                    case rel => exact ⟨i + 1, by omega, by go_num, by rw [HA2.out], HD.out.trans ⟨_, rfl⟩⟩
                    case measure => simp [intOf]; omega
                · have f1 : (p1 == x) = false := by rw [beq_eq_false_iff_ne]; exact e1
                  have HA2 : Hid (((List.range (i + 1)).any fun j => lkEq all x y d j) = false) := by unfold Hid; rw [HAS.out, ← HR2.out]; simp [e1]
                  clear HAS HR2
                  go_wp2_with fail
                  go_quiet (fail)
                  go_wp2_with fail
                  go_roundw
                  case rel => exact ⟨i + 1, by omega, by go_num, by rw [HA2.out], HD.out.trans ⟨_, rfl⟩⟩
                  case measure => simp [intOf]; omega
              · have HA2 : Hid (((List.range (i + 1)).any fun j => lkEq all x y d j) = true) := HAS.out
                clear hx' hy' hz' ux uy uz
                go_wp2_with fail
                go_quiet (fail)
                go_wp2_with fail
                go_roundw
                case rel => exact ⟨i + 1, by omega, by go_num, by rw [HA2.out], HD.out.trans ⟨_, rfl⟩⟩
                case measure => simp [intOf]; omega
            · have hti : decide ((i : Int) < (all.length : Int)) = false := by simp only [decide_eq_false_iff_not]; omega
              have hbd := HD.out.below W3.heap.size
              have hbw := HB1.out.trans (HB.out.mono HB1.out.size)
              have wx := (hbd.cell (p := ad.add (k * 3)) (by rw [addBlock]; have := hbw.size; omega)).trans hx'
              have wy := (hbd.cell (p := ⟨(ad.add (k * 3)).block, (ad.add (k * 3)).off + 1, none⟩) (by show (ad.add (k * 3)).block < _; rw [addBlock]; have := hbw.size; omega)).trans hy'
              have wz := (hbd.cell (p := ⟨(ad.add (k * 3)).block, (ad.add (k * 3)).off + 2, none⟩) (by show (ad.add (k * 3)).block < _; rw [addBlock]; have := hbw.size; omega)).trans hz'
              have HB4 := Lib.hid (HB.out.trans (hbd.mono HB.out.size))
              have HO4 := Lib.hid (HO.out.below hbd)
              have HMEM : Hid (((List.range i).any fun j => lkEq all x y d j) = true ↔ (x, y, d) ∈ all) := by
                unfold Hid
                rw [List.any_eq_true]
                constructor
                · rintro ⟨j, hj, hp⟩
                  have hj' : j < all.length := by have := List.mem_range.1 hj; omega
                  rw [← (lkEq_iff all x y d j hj').1 hp]; exact List.getElem_mem _
                · intro hm
                  obtain ⟨j, hj, e⟩ := List.getElem_of_mem hm
                  exact ⟨j, by simp; omega, (lkEq_iff all x y d j hj).2 e⟩
              generalize ((List.range i).any fun j => lkEq all x y d j) = r at *
              clear hx' hy' hz' hbd hbw
              cases r
              · have HF : Hid (treeB a b ls = false) := treeB_out hlt (by rw [HALL.out, HLK.out]; exact fun h => by have := HMEM.out.2 h; simp at this)
                go_wp2_with fail
                go_ret
                exact ⟨ret_bool HF.out.symm, HB1.out.trans (HB4.out.mono HB1.out.size)⟩
              · have hmem := HMEM.out.1 rfl
                have hin := (tree_facts a b hg).1 (x, y, d) (by rw [HALL.out]; exact hmem)
                rw [HN.out] at hin
                obtain ⟨pa, pb, ha, hb', i1, i2, i3, i4, i5, i6⟩ := lk_ends hin
                rw [i4] at HSP
                have HA := Lib.hid ha
                have HBB := Lib.hid hb'
                have HST : Hid (∀ f : Bool, (decide (∀ j, (h : j < ls.length) → k ≤ j → ls[j] ∈ all) && f) = (decide (∀ j, (h : j < ls.length) → k + 1 ≤ j → ls[j] ∈ all) && f)) := by
                  intro f
                  congr 1
                  rw [decide_eq_decide]
                  refine ⟨fun h j h1 h2 => h j h1 (by omega), fun h j h1 h2 => ?_⟩
                  by_cases e : j = k
                  · subst e; rw [HLK.out]; exact hmem
                  · exact h j h1 (by omega)
                clear ha hb' i4 hmem hin HMEM
                go_wp2_with fail
                refine (l23Ends_any _ _ _ _ _ (by omega) (by omega) (by omega) (by omega) (by omega) (by omega)).mono ?_
                rintro e w5 ⟨rfl, hb5⟩
                rw [HA.out, HBB.out]
                have HB5 := Lib.hid (HB4.out.trans (hb5.mono HB4.out.size))
                have HO5 := Lib.hid (HO4.out.below hb5)
                clear hb5 wx wy wz
                go_wp2_with fail
                refine (l23Join_any gg cg n _ pa pb gs _ HO5.out HGL.out (by omega) (by omega) (by omega)).mono ?_
                rintro e w6 ⟨rfl, hO6, hg6⟩
                have HO6 := Lib.hid hO6
                have HB6 := Lib.hid (HB5.out.grown hg6 HB5.out.size (fun k hk => by obtain rfl := Option.some.inj hk; exact hgb))
                clear hO6 hg6
                by_cases hj : gi gs pa = gi gs pb
                · rw [show decide (gi gs pa ≠ gi gs pb) = false by simp [hj]]
                  have HF : Hid (treeB a b ls = false) := by unfold Hid; rw [HT.out, HSP.out, if_pos hj, Bool.and_false]
                  go_wp2_with fail
                  go_ret
                  exact ⟨ret_bool HF.out.symm, HB1.out.trans (HB6.out.mono HB1.out.size)⟩
                · rw [show decide (gi gs pa ≠ gi gs pb) = true by simp [hj]]
                  have HF : Hid (treeB a b ls = (decide (∀ j, (h : j < ls.length) → k + 1 ≤ j → ls[j] ∈ all) && okAll (joinF gs (pa, pb)) (es.drop (k + 1)))) := by unfold Hid; rw [HT.out, HST.out, HSP.out, if_neg hj]
                  have HJL : Hid ((joinF gs (pa, pb)).length = n) := by unfold Hid joinF; rw [List.length_map]; exact HGL.out
                  clear hj
                  go_wp2_with fail
                  go_roundw
                  case rel => exact ⟨k + 1, _, by omega, by go_num, HO6, HB6, HJL, HF⟩
                  case measure => simp [intOf]; omega
        · have ht : decide ((k : Int) < (ls.length : Int)) = false := by simp only [decide_eq_false_iff_not]; omega
          have HF : Hid (treeB a b ls = true) := by
            unfold Hid
            rw [HT.out, List.drop_of_length_le (by have := HEL.out; omega), okAll, Bool.and_true, decide_eq_true_iff]
            intro j h1 h2; omega
          go_wp2_with fail
          go_ret
          exact ⟨ret_bool HF.out.symm, HB1.out.trans (HB.out.mono HB1.out.size)⟩
    · rw [treeB_len hlen]
      have t1 : ((ls.length : Int) != (a : Int) * (b : Int) - 1) = true := by rw [bne_iff_ne]; exact hlen
      clear hlen hm
      go_enter Try.func50, Try.ntmps50
      go_wp2_with fail
      refine (specGridOk_any _ _ _).mono ?_
      rintro e w1 ⟨rfl, rfl⟩
      rw [hg]
      go_wp2_with fail
      go_ret
      exact ⟨rfl, Below.refl _ _⟩
end Go.Proofs.Ytehnbalbpfmijaa

namespace Go.Proofs.Ytehnbalbpfmijaa
open Go.RowKit

def chI (n : Nat) : Nat → Nat | 0 => 1 | k+1 => chI n k * (n - k) / (k + 1)
def chS (n k : Nat) : Nat → Nat | 0 => 1 | i+1 => chS n k i * (n - k + (i + 1)) / (i + 1)
def chOk : Bool := (List.range 21).all fun n => (List.range 21).all fun k => !(decide (k ≤ n)) || (decide (chI n k = chS n k k) && decide (chI n k ≤ 200000) && (List.range 21).all fun i => !(decide (i ≤ k)) || decide (chS n k i ≤ 200000))
theorem chOk_true : chOk = true := by decide +kernel
theorem ch_facts (n k : Nat) (hn : n ≤ 20) (hk : k ≤ n) : chI n k = chS n k k ∧ chI n k ≤ 200000 ∧ ∀ i, i ≤ k → chS n k i ≤ 200000 := by
  have h := chOk_true
  unfold chOk at h
  rw [List.all_eq_true] at h
  have h1 := h n (List.mem_range.2 (by omega))
  rw [List.all_eq_true] at h1
  have h2 := h1 k (List.mem_range.2 (by omega))
  simp only [hk, decide_true, Bool.not_true, Bool.false_or, Bool.and_eq_true, decide_eq_true_eq, List.all_eq_true] at h2
  obtain ⟨⟨h3, h4⟩, h5⟩ := h2
  refine ⟨h3, h4, fun i hi => ?_⟩
  have h6 := h5 i (List.mem_range.2 (by omega))
  simpa [hi] using h6

def chooseZ (a b : Int) : Int := if inB a 0 20 && inB b 0 a then ((chI a.toNat b.toNat : Nat) : Int) else 0
theorem chooseZ_in (n k : Nat) (hn : n ≤ 20) (hk : k ≤ n) : chooseZ n k = chI n k := by
  have h1 : inB (n : Int) 0 20 = true := inB_true (by omega) (by omega)
  have h2 : inB (k : Int) 0 n = true := inB_true (by omega) (by omega)
  simp [chooseZ, h1, h2]
theorem chooseZ_le (a b : Int) : 0 ≤ chooseZ a b ∧ chooseZ a b ≤ 200000 := by
  unfold chooseZ
  split
  · rename_i h
    simp only [Bool.and_eq_true, inB_iff] at h
    obtain ⟨_, h5, _⟩ := ch_facts a.toNat b.toNat (by omega) (by omega)
    omega
  · omega

theorem inB_cases (a b : Int) : (inB a 0 20 = true ∧ inB b 0 a = true) ∨ inB a 0 20 = false ∨ (inB a 0 20 = true ∧ inB b 0 a = false) := by
  cases inB a 0 20 <;> cases inB b 0 a <;> simp
end Go.Proofs.Ytehnbalbpfmijaa

namespace Go.Proofs.Ytehnbalbpfmijaa
open Go.RowKit

abbrev spotV (x y : Int) : Value := .agg #[.int .i64 x, .int .i64 y]
def spotB (m x y : Int) : Bool := inB x 0 m && inB y 0 m
theorem spotB_iff (m x y : Int) : spotB m x y = true ↔ (0 ≤ x ∧ x ≤ m) ∧ 0 ≤ y ∧ y ≤ m := by simp [spotB, inB_iff]

/-- Below, as facts on cells and marks that the walk uses by itself. -/
theorem bcell {W w1 : World} {B : Nat} (hb : Below B W w1) : (∀ b o, b < B → w1.cell? ⟨b, o, none⟩ = W.cell? ⟨b, o, none⟩) ∧ (∀ b o, b < B → w1.frozen? ⟨b, o, none⟩ = W.frozen? ⟨b, o, none⟩) :=
  ⟨fun b o h => hb.cell (p := ⟨b, o, none⟩) h, fun b o h => hb.frozen (p := ⟨b, o, none⟩) h⟩

def pathsZ (ax ay bx by' : Int) : Int :=
  if spotB 8 ax ay && spotB 8 bx by' && decide (ax ≤ bx) && decide (ay ≤ by') then chooseZ (bx - ax + by' - ay) (bx - ax) else 0


end Go.Proofs.Ytehnbalbpfmijaa

namespace Go.Proofs.Ytehnbalbpfmijaa
open Go.RowKit

theorem CellOk_any (x y : Int) (w : World) :
    Calls Try.prog 138 #[spotV x y] w fun e w' => e = .returned (.bool (spotB 7 x y)) ∧ Below w.heap.size w w' := by
  cases h1 : inB x 0 7 <;> cases h2 : inB y 0 7
  all_goals
    go_enter Try.func138, Try.ntmps138
    go_wp2_with (go_at_call 70; refine (within_any _ _ _ _).mono ?_; rintro e w' ⟨rfl, rfl⟩)
    go_ret
    exact ⟨by simp [spotB, h1, h2], (Below.refl _ _).alloc (by simp) _⟩

/-- The number of a cell. -/
def cix (x y : Nat) : Nat := y * 8 + x
theorem CellIndex_yes (x y : Nat) (hx : x ≤ 7) (hy : y ≤ 7) (w : World) :
    Calls Try.prog 139 #[spotV x y] w fun e w' => e = .returned (.int .i64 (cix x y : Nat)) ∧ Below w.heap.size w w' := by
  have hok : spotB 7 x y = true := (spotB_iff _ _ _).2 ⟨by omega, by omega⟩
  have HE : Hid ((y : Int) * 8 + (x : Int) = ((cix x y : Nat) : Int)) := by unfold Hid cix; omega
  go_enter Try.func139, Try.ntmps139
  go_wp2_with fail
  refine (CellOk_any _ _ _).mono ?_
  rintro e w1 ⟨rfl, hb1⟩
  rw [hok]
  obtain ⟨hc, hf⟩ := bcell hb1
  go_wp2_with fail
  go_ret
  exact ⟨ret_int HE.out, ((Below.refl _ _).alloc (Nat.le_refl _) _).trans (hb1.mono (by simp))⟩

theorem shl_u64 (k : Nat) (hk : k ≤ 63) (W : World) : Sem.run Try.prog (Op.shift BinOp.shl IntKind.u64 1 IntKind.i64 (k : Int)) W = .ok (.int .u64 ((2 ^ k : Nat) : Int)) W := by
  rw [shift_shl _ _ _ _ (by omega) (by simp [IntKind.bits]; omega)]
  have h : (2 ^ k : Nat) < 2 ^ 64 := Nat.pow_lt_pow_right (by omega) (by omega)
  have e : IntKind.u64.wrap (1 * 2 ^ ((k : Int)).toNat) = ((2 ^ k : Nat) : Int) := by
    rw [Int.toNat_natCast, Int.one_mul, IntKind.wrap_u64]
    have : ((2 : Int) ^ k) = ((2 ^ k : Nat) : Int) := by simp
    rw [this]
    generalize (2 ^ k : Nat) = p at *
    omega
  rw [e]; rfl
theorem shr_u64 (T k : Nat) (hk : k ≤ 63) (W : World) : Sem.run Try.prog (Op.shift BinOp.shr IntKind.u64 (T : Int) IntKind.i64 (k : Int)) W = .ok (.int .u64 ((T / 2 ^ k : Nat) : Int)) W := by
  rw [shift_shr _ _ _ _ (by omega) (by simp [IntKind.bits]; omega)]
  have e : (T : Int) / 2 ^ ((k : Int)).toNat = ((T / 2 ^ k : Nat) : Int) := by
    rw [Int.toNat_natCast]; simp
  rw [e]; rfl
theorem shr_val (T k : Nat) (hk : k ≤ 63) : (T : Int) / 2 ^ min k 64 = ((T / 2 ^ k : Nat) : Int) := by
  rw [Nat.min_eq_left (by omega)]; simp
theorem shl_val (k : Nat) (hk : k ≤ 63) : IntKind.u64.wrap ((2 : Int) ^ min k 64) = ((2 ^ k : Nat) : Int) := by
  have h : (2 ^ k : Nat) < 18446744073709551616 := Nat.pow_lt_pow_right (a := 2) (m := k) (n := 64) (by omega) (by omega)
  have e : ((2 : Int) ^ k) = ((2 ^ k : Nat) : Int) := by simp
  rw [Nat.min_eq_left (by omega), IntKind.wrap_u64, e]
  generalize (2 ^ k : Nat) = p at *
  omega
theorem bit_and (T k : Nat) (hT : T < 18446744073709551616) : bits .and .u64 ((T / 2 ^ k : Nat) : Int) 1 = if T.testBit k then 1 else 0 := by
  have hle : T / 2 ^ k ≤ T := Nat.div_le_self _ _
  rw [Nat.testBit_eq_decide_div_mod_eq]
  generalize T / 2 ^ k = S at *
  rw [Lib.u64_and1 _ (by omega) (by omega)]
  by_cases h : S % 2 = 1
  · rw [if_pos (by simpa using h)]; omega
  · rw [if_neg (by simpa using h)]; omega

/-- A set has a cell. -/
def hasB (T x y : Nat) : Bool := T.testBit (cix x y)
set_option maxHeartbeats 400000 in
theorem has_yes (T x y : Nat) (hT : T < 18446744073709551616) (hx : x ≤ 7) (hy : y ≤ 7) (w : World) :
    Calls Try.prog 78 #[.int .u64 (T : Int), spotV x y] w fun e w' => e = .returned (.bool (hasB T x y)) ∧ Below w.heap.size w w' := by
  have hok : spotB 7 x y = true := (spotB_iff _ _ _).2 ⟨by omega, by omega⟩
  have hk : cix x y ≤ 63 := by unfold cix; omega
  have HB : Hid ((bits .and .u64 ((T : Int) / 2 ^ min (cix x y) 64) 1 == 1) = hasB T x y) := by
    unfold Hid
    rw [shr_val _ _ hk, bit_and T _ hT, hasB]
    cases T.testBit (cix x y) <;> rfl
  obtain ⟨k, HK⟩ : ∃ k, Hid (cix x y = k) := ⟨_, rfl⟩
  rw [HK.out] at HB
  clear hk
  go_enter Try.func78, Try.ntmps78
  go_wp2_with fail
  refine (CellOk_any _ _ _).mono ?_
  rintro e w1 ⟨rfl, hb1⟩
  rw [hok]
  obtain ⟨hc, hf⟩ := bcell hb1
  have hz : w.heap.size + 1 ≤ w1.heap.size := by have := hb1.size; simp at this; omega
  go_wp2_with fail
  refine (CellIndex_yes x y hx hy _).mono ?_
  rintro e w2 ⟨rfl, hb2⟩
  rw [HK.out]
  go_wp2_with fail
  go_ret
  exact ⟨ret_bool HB.out, (((Below.refl _ _).alloc (Nat.le_refl _) _).trans (hb1.mono (by simp))).trans (hb2.mono (by omega))⟩

theorem with_lt {T k : Nat} (hT : T < 18446744073709551616) (hk : k ≤ 63) : T ||| 2 ^ k < 18446744073709551616 :=
  Nat.or_lt_two_pow (n := 64) hT (Nat.pow_lt_pow_right (by omega) (by omega))
set_option maxHeartbeats 400000 in
theorem with_yes (T x y : Nat) (hT : T < 18446744073709551616) (hx : x ≤ 7) (hy : y ≤ 7) (w : World) :
    Calls Try.prog 80 #[.int .u64 (T : Int), spotV x y] w fun e w' => e = .returned (.int .u64 ((T ||| 2 ^ cix x y : Nat) : Int)) ∧ Below w.heap.size w w' := by
  have hk : cix x y ≤ 63 := by unfold cix; omega
  have hp : (2 ^ cix x y : Nat) < 18446744073709551616 := Nat.pow_lt_pow_right (a := 2) (m := cix x y) (n := 64) (by omega) (by omega)
  have HV : Hid (bits .or .u64 (T : Int) (IntKind.u64.wrap ((2 : Int) ^ min (cix x y) 64)) = ((T ||| 2 ^ cix x y : Nat) : Int)) := by
    unfold Hid
    rw [shl_val _ hk]; exact u64_or_nat T (2 ^ cix x y) hT hp
  obtain ⟨k, HK⟩ : ∃ k, Hid (cix x y = k) := ⟨_, rfl⟩
  go_enter Try.func80, Try.ntmps80
  go_wp2_with fail
  refine (CellIndex_yes x y hx hy _).mono ?_
  rintro e w2 ⟨rfl, hb2⟩
  rw [HK.out]
  rw [HK.out] at HV
  go_wp2_with fail
  go_ret
  exact ⟨congrArg (fun z => Ending.returned (.int .u64 z)) (by rw [HK.out]; exact HV.out), ((Below.refl _ _).alloc (Nat.le_refl _) _).trans (hb2.mono (by simp))⟩
end Go.Proofs.Ytehnbalbpfmijaa

namespace Go.Proofs.Ytehnbalbpfmijaa
open Go.RowKit
set_option linter.unusedVariables false

def regOkB (zs : List Int) : Bool := decide (zs.length ≤ 8) && allB zs 0 255
theorem RegionOk_any (v : Value) (zs : List Int) (B : Nat) (w : World) (h : RdI w B v zs) (hB : B ≤ w.heap.size) :
    Calls Try.prog 155 #[.agg #[v]] w fun e w' => e = .returned (.bool (regOkB zs)) ∧ Below w.heap.size w w' := by
  have HU := Lib.hid h
  obtain ⟨A, c, rfl, h1, h2, _⟩ := h
  unfold maxLen at h2
  have hb0 : Below w.heap.size w (w.alloc (.cells #[.slice A zs.length c] 39)) := (Below.refl _ _).alloc (Nat.le_refl _) _
  by_cases hl : zs.length ≤ 8
  · have hl' : decide ((zs.length : Int) ≤ 8) = true := by simp; omega
    have HF : Hid (allB zs 0 255 = regOkB zs) := by unfold Hid regOkB; simp [hl]
    have HR := Lib.hid (HU.out.below (hb0.mono hB))
    go_enter Try.func155, Try.ntmps155
    go_wp2_with fail
    refine (allWithin_any _ zs 0 255 _ _ HR.out).mono ?_
    rintro e w1 ⟨rfl, rfl⟩
    go_wp2_with fail
    go_ret
    exact ⟨ret_bool HF.out, hb0⟩
  · have hl' : decide ((zs.length : Int) ≤ 8) = false := by simp; omega
    have HF : Hid (false = regOkB zs) := by unfold Hid regOkB; simp [hl]
    go_enter Try.func155, Try.ntmps155
    go_wp2_with fail
    go_ret
    exact ⟨ret_bool HF.out, hb0⟩

/-- The cells of the first k rows. -/
def setTo (zs : List Int) : Nat → Nat
  | 0 => 0
  | k + 1 => setTo zs k ||| (el zs k).toNat * 2 ^ (8 * k)
def setZ (zs : List Int) : Nat := setTo zs zs.length
theorem regOk_el {zs : List Int} (h : regOkB zs = true) {k : Nat} (hk : k < zs.length) : 0 ≤ el zs k ∧ el zs k ≤ 255 := by
  unfold regOkB allB at h
  simp only [Bool.and_eq_true, decide_eq_true_eq, List.all_eq_true, inB_iff] at h
  have := h.2 _ (List.getElem_mem hk)
  rwa [← el_get zs k hk] at this
theorem regOk_len {zs : List Int} (h : regOkB zs = true) : zs.length ≤ 8 := by
  unfold regOkB at h
  simp only [Bool.and_eq_true, decide_eq_true_eq] at h
  exact h.1
theorem row_lt {r k : Nat} (hr : r ≤ 255) (hk : k ≤ 7) : r * 2 ^ (8 * k) < 2 ^ (8 * (k + 1)) := by
  rw [show 8 * (k + 1) = 8 * k + 8 by omega, Nat.pow_add, Nat.mul_comm]
  have : 0 < 2 ^ (8 * k) := Nat.pos_of_ne_zero (by simp)
  exact Nat.mul_lt_mul_of_pos_left (by omega) this
theorem setTo_lt {zs : List Int} (h : regOkB zs = true) : ∀ k, k ≤ zs.length → setTo zs k < 2 ^ (8 * k)
  | 0, _ => by simp [setTo]
  | k + 1, hk => by
    have ih := setTo_lt h k (by omega)
    have hl := regOk_len h
    have he := regOk_el h (k := k) (by omega)
    rw [setTo]
    refine Nat.or_lt_two_pow (Nat.lt_of_lt_of_le ih (Nat.pow_le_pow_right (by omega) (by omega))) (row_lt (by omega) (by omega))
theorem setZ_lt {zs : List Int} (h : regOkB zs = true) : setZ zs < 18446744073709551616 := by
  have h1 := setTo_lt h zs.length (Nat.le_refl _)
  have h2 := regOk_len h
  exact Nat.lt_of_lt_of_le h1 (Nat.pow_le_pow_right (n := 2) (j := 64) (by omega) (by omega))

set_option maxHeartbeats 1000000 in
theorem rset_any (v : Value) (zs : List Int) (B : Nat) (w : World) (h : RdI w B v zs) (hB : B ≤ w.heap.size) (hok : regOkB zs = true) :
    Calls Try.prog 60 #[.agg #[v]] w fun e w' => e = .returned (.int .u64 (setZ zs : Nat)) ∧ Below w.heap.size w w' := by
  have HU := Lib.hid h
  have hl8 := regOk_len hok
  obtain ⟨A, c, rfl, h1, h2, _⟩ := h
  unfold maxLen at h2
  have hb0 : Below w.heap.size w (w.alloc (.cells #[.slice A zs.length c] 39)) := (Below.refl _ _).alloc (Nat.le_refl _) _
  obtain ⟨A', c', e', _, _, hR⟩ := HU.out.below (hb0.mono hB)
  simp only [Value.slice.injEq] at e'
  obtain ⟨rfl, _, rfl⟩ := e'
  have HR := Lib.hid hR
  have HB0 := Lib.hid hb0
  clear hR hb0
  go_enter Try.func60, Try.ntmps60
  go_wp2_with fail
  generalize w.alloc (.cells #[.slice A zs.length c] 39) = W at *
  go_loop [3, 9] (fun s i => ∃ k : Nat, k ≤ zs.length ∧ i = .int .i64 k ∧ s = .int .u64 (setTo zs k : Nat)) (fun _ i => zs.length - (intOf i).toNat)
  case atStart => exact ⟨0, Nat.zero_le _, rfl, rfl⟩
  case round =>
    obtain ⟨k, hk, rfl, rfl⟩ := hrel
    by_cases hlt : k < zs.length
    · obtain ⟨ad, rfl, hbl, hc⟩ := HR.out.int hlt
      rw [← el_get zs k hlt] at hc
      obtain ⟨x0, x1⟩ := regOk_el hok hlt
      obtain ⟨x, hx⟩ := Int.eq_ofNat_of_zero_le x0
      have HT : Hid (setTo zs (k + 1) = setTo zs k ||| x * 2 ^ (8 * k)) := by unfold Hid; rw [setTo, hx, Int.toNat_natCast]
      have HL1 := Lib.hid (setTo_lt hok k (by omega))
      rw [hx] at hc x0 x1
      have HX := Lib.hid hx
      clear hx
      have HV : Hid (bits .or .u64 ((setTo zs k : Nat) : Int) (IntKind.u64.wrap ((x : Int) * 2 ^ (8 * k))) = ((setTo zs (k + 1) : Nat) : Int)) := by
        unfold Hid
        have e1 : (x : Int) * 2 ^ (8 * k) = ((x * 2 ^ (8 * k) : Nat) : Int) := by simp
        have l1 := row_lt (r := x) (k := k) (by omega) (by omega)
        have l2 : (2 : Nat) ^ (8 * (k + 1)) ≤ 2 ^ 64 := Nat.pow_le_pow_right (by omega) (by omega)
        have l3 : (2 : Nat) ^ (8 * k) ≤ 2 ^ 64 := Nat.pow_le_pow_right (by omega) (by omega)
        have l4 := HL1.out
        rw [e1, HT.out, IntKind.wrap_u64]
        generalize x * 2 ^ (8 * k) = p at *
        rw [show ((p : Int)) % 18446744073709551616 = (p : Int) by omega]
        exact u64_or_nat _ _ (Nat.lt_of_lt_of_le l4 l3) (Nat.lt_of_lt_of_le l1 l2)
      clear HL1
      go_wp2_with fail
      go_round
      case rel => exact ⟨k + 1, by omega, by go_num, by rw [HV.out]⟩
      case measure => simp [intOf]; omega
    · have HK : Hid (k = zs.length) := by unfold Hid; omega
      go_wp2_with fail
      go_ret
      exact ⟨congrArg (fun n : Nat => Ending.returned (.int .u64 (n : Int))) (by rw [HK.out]; rfl), HB0.out⟩

theorem cix_bit (zs : List Int) (hok : regOkB zs = true) (x y : Nat) (hx : x ≤ 7) : ∀ k, k ≤ zs.length → (setTo zs k).testBit (cix x y) = (decide (y < k) && (el zs y).toNat.testBit x)
  | 0, _ => by simp [setTo]
  | k + 1, hk => by
    have ih := cix_bit zs hok x y hx k (by omega)
    have he := regOk_el hok (k := k) (by omega)
    rw [setTo, Nat.testBit_or, ih, Nat.testBit_mul_two_pow]
    have hbig : ∀ j, 8 ≤ j → (el zs k).toNat.testBit j = false := fun j hj => Nat.testBit_lt_two_pow (Nat.lt_of_lt_of_le (show (el zs k).toNat < 2 ^ 8 by omega) (Nat.pow_le_pow_right (by omega) hj))
    unfold cix
    rcases Nat.lt_trichotomy y k with h | h | h
    · have h1 : ¬ 8 * k ≤ y * 8 + x := by omega
      simp [h, show y < k + 1 by omega, h1]
    · subst h
      have h1 : 8 * y ≤ y * 8 + x := by omega
      have h2 : y * 8 + x - 8 * y = x := by omega
      simp [h1, h2]
    · have h1 : 8 * k ≤ y * 8 + x := by omega
      have h2 := hbig (y * 8 + x - 8 * k) (by omega)
      simp [h1, h2, show ¬ y < k by omega, show ¬ y < k + 1 by omega]
/-- A region has a cell. -/
theorem setZ_bit {zs : List Int} (hok : regOkB zs = true) (x y : Nat) (hx : x ≤ 7) : hasB (setZ zs) x y = (decide (y < zs.length) && (el zs y).toNat.testBit x) := cix_bit zs hok x y hx zs.length (Nat.le_refl _)
end Go.Proofs.Ytehnbalbpfmijaa

namespace Go.Proofs.Ytehnbalbpfmijaa
open Go.RowKit
set_option linter.unusedVariables false

/-- The second cell of a domino. -/
def sndX (x : Int) (d : Bool) : Int := if d then x else wrap64 (x + 1)
def sndY (y : Int) (d : Bool) : Int := if d then wrap64 (y + 1) else y
def domB (x y : Int) (d : Bool) : Bool := spotB 7 x y && spotB 7 (sndX x d) (sndY y d)

set_option maxHeartbeats 1000000 in
/-- Two result variables of two cells each are written, in either order. -/
theorem two_stores {w V : World} {a b : Nat} {p q r t : Value} {ty : TypeId} {p' q' r' t' : Value} (K1 : V.heap[a]? = some (.cells #[p', q'] ty (0, 0))) (K2 : V.heap[b]? = some (.cells #[r', t'] ty (0, 0))) (hab : a ≠ b) (ha : w.heap.size ≤ a) (hb : w.heap.size ≤ b) (HB : Below w.heap.size w V) :
    ∀ X, X = (((V.setCell ⟨a, 0, none⟩ p).setCell ⟨a, 1, none⟩ q).setCell ⟨b, 0, none⟩ r).setCell ⟨b, 1, none⟩ t → X.cell? ⟨a, 0, none⟩ = some p ∧ X.cell? ⟨a, 1, none⟩ = some q ∧ X.cell? ⟨b, 0, none⟩ = some r ∧ X.cell? ⟨b, 1, none⟩ = some t ∧ Below w.heap.size w X := by
  rintro X rfl
  have h1 := blk_setCell (k := 1) (blk_setCell (k := 0) K1 p) q
  have h1' : ((((V.setCell ⟨a, 0, none⟩ p).setCell ⟨a, 1, none⟩ q).setCell ⟨b, 0, none⟩ r).setCell ⟨b, 1, none⟩ t).heap[a]? = some (.cells ((#[p', q'].setIfInBounds 0 p).setIfInBounds 1 q) ty (0, 0)) :=
    (Below.heap_setCell _ _ _ _ (by simpa using hab)).trans ((Below.heap_setCell _ _ _ _ (by simpa using hab)).trans h1)
  have h2 : ((V.setCell ⟨a, 0, none⟩ p).setCell ⟨a, 1, none⟩ q).heap[b]? = some (.cells #[r', t'] ty (0, 0)) :=
    (Below.heap_setCell _ _ _ _ (by simpa using Ne.symm hab)).trans ((Below.heap_setCell _ _ _ _ (by simpa using Ne.symm hab)).trans K2)
  have h2' := blk_setCell (k := 1) (blk_setCell (k := 0) h2 r) t
  exact ⟨by rw [blk_cell h1']; rfl, by rw [blk_cell h1']; rfl, by rw [blk_cell h2']; rfl, by rw [blk_cell h2']; rfl, (((HB.setCell ha _).setCell ha _).setCell hb _).setCell hb _⟩

set_option maxRecDepth 100000 in
set_option maxHeartbeats 4000000 in
theorem ends_any (x y : Int) (d : Bool) (w : World) :
    Calls Try.prog 161 #[triV x y d] w fun e w' => e = .returned (.tuple #[spotV x y, spotV (sndX x d) (sndY y d)]) ∧ Below w.heap.size w w' := by
  cases d
  · go_enter Try.func161, Try.ntmps161
    go_wp2_with fail
    obtain ⟨W, hW, k0, k1, k2, hb⟩ := three_alloc w (.cells #[.int .i64 x, .int .i64 y, .bool false] 46) (.cells #[.int .i64 0, .int .i64 0] 44) (.cells #[.int .i64 0, .int .i64 0] 44)
    rw [← hW]
    have c0 : W.drew.cell? ⟨w.heap.size, 0, none⟩ = some (.int .i64 x) := by show W.cell? _ = _; rw [blk_cell k0]; rfl
    have c1 : W.drew.cell? ⟨w.heap.size, 1, none⟩ = some (.int .i64 y) := by show W.cell? _ = _; rw [blk_cell k0]; rfl
    have d0 : W.cell? ⟨w.heap.size + 1, 0, none⟩ = some (.int .i64 0) := by rw [blk_cell k1]; rfl
    have d1 : W.cell? ⟨w.heap.size + 1, 1, none⟩ = some (.int .i64 0) := by rw [blk_cell k1]; rfl
    have d2 : W.cell? ⟨w.heap.size + 1 + 1, 0, none⟩ = some (.int .i64 0) := by rw [blk_cell k2]; rfl
    have d3 : W.cell? ⟨w.heap.size + 1 + 1, 1, none⟩ = some (.int .i64 0) := by rw [blk_cell k2]; rfl
    have f0 : ∀ o, W.frozen? ⟨w.heap.size + 1, o, none⟩ = false := fun o => blk_free k1
    have f2 : ∀ o, W.frozen? ⟨w.heap.size + 1 + 1, o, none⟩ = false := fun o => blk_free k2
    have g0 : W.cell? ⟨w.heap.size, 0, none⟩ = some (.int .i64 x) := by rw [blk_cell k0]; rfl
    have g1 : W.cell? ⟨w.heap.size, 1, none⟩ = some (.int .i64 y) := by rw [blk_cell k0]; rfl
    have T1 := Lib.hid (two_stores (w := w) (V := W.drew) (p := .int .i64 x) (q := .int .i64 y) (r := .int .i64 (sndX x false)) (t := .int .i64 (y)) k1 k2 (by omega) (by omega) (by omega) hb.drew)
    have hw1 : IntKind.i64.wrap (x + 1) = sndX x false := by rw [IntWalk.i64_left]; rfl
    clear hW k0 k1 k2 hb
    go_region_held3 (fun w' => w'.cell? ⟨w.heap.size, 0, none⟩ = some (.int .i64 x) ∧ w'.cell? ⟨w.heap.size, 1, none⟩ = some (.int .i64 y))
      (first
        | exact ⟨c0, c1⟩
        | (refine ⟨?_, ?_⟩ <;> go_simp))
      (first
        | fail)
    go_wp2_with fail
    generalize hX : ((((W.setCell ⟨w.heap.size + 1, 0, none⟩ (.int .i64 x)).setCell ⟨w.heap.size + 1, 1, none⟩ (.int .i64 y)).setCell ⟨w.heap.size + 1 + 1, 0, none⟩ (.int .i64 (sndX x false))).setCell ⟨w.heap.size + 1 + 1, 1, none⟩ (.int .i64 (y))).drew = X
    obtain ⟨r0, r1, r2, r3, r4⟩ := T1.out X hX.symm
    refine bodyPost_ret (v := .tuple #[spotV x y, spotV (sndX x false) (y)]) (by simp [results, Try.results161, go_sem, r0, r1, r2, r3]) rfl ⟨rfl, r4⟩
  · go_enter Try.func161, Try.ntmps161
    go_wp2_with fail
    obtain ⟨W, hW, k0, k1, k2, hb⟩ := three_alloc w (.cells #[.int .i64 x, .int .i64 y, .bool true] 46) (.cells #[.int .i64 0, .int .i64 0] 44) (.cells #[.int .i64 0, .int .i64 0] 44)
    rw [← hW]
    have c0 : W.drew.cell? ⟨w.heap.size, 0, none⟩ = some (.int .i64 x) := by show W.cell? _ = _; rw [blk_cell k0]; rfl
    have c1 : W.drew.cell? ⟨w.heap.size, 1, none⟩ = some (.int .i64 y) := by show W.cell? _ = _; rw [blk_cell k0]; rfl
    have d0 : W.cell? ⟨w.heap.size + 1, 0, none⟩ = some (.int .i64 0) := by rw [blk_cell k1]; rfl
    have d1 : W.cell? ⟨w.heap.size + 1, 1, none⟩ = some (.int .i64 0) := by rw [blk_cell k1]; rfl
    have d2 : W.cell? ⟨w.heap.size + 1 + 1, 0, none⟩ = some (.int .i64 0) := by rw [blk_cell k2]; rfl
    have d3 : W.cell? ⟨w.heap.size + 1 + 1, 1, none⟩ = some (.int .i64 0) := by rw [blk_cell k2]; rfl
    have f0 : ∀ o, W.frozen? ⟨w.heap.size + 1, o, none⟩ = false := fun o => blk_free k1
    have f2 : ∀ o, W.frozen? ⟨w.heap.size + 1 + 1, o, none⟩ = false := fun o => blk_free k2
    have g0 : W.cell? ⟨w.heap.size, 0, none⟩ = some (.int .i64 x) := by rw [blk_cell k0]; rfl
    have g1 : W.cell? ⟨w.heap.size, 1, none⟩ = some (.int .i64 y) := by rw [blk_cell k0]; rfl
    have T1 := Lib.hid (two_stores (w := w) (V := W.drew) (p := .int .i64 x) (q := .int .i64 y) (r := .int .i64 (x)) (t := .int .i64 (sndY y true)) k1 k2 (by omega) (by omega) (by omega) hb.drew)
    have hw1 : IntKind.i64.wrap (y + 1) = sndY y true := by rw [IntWalk.i64_left]; rfl
    clear hW k0 k1 k2 hb
    go_region_held3 (fun w' => w'.cell? ⟨w.heap.size, 0, none⟩ = some (.int .i64 x) ∧ w'.cell? ⟨w.heap.size, 1, none⟩ = some (.int .i64 y))
      (first
        | exact ⟨c0, c1⟩
        | (refine ⟨?_, ?_⟩ <;> go_simp))
      (first
        | fail)
    go_wp2_with fail
    generalize hX : ((((W.setCell ⟨w.heap.size + 1, 0, none⟩ (.int .i64 x)).setCell ⟨w.heap.size + 1, 1, none⟩ (.int .i64 y)).setCell ⟨w.heap.size + 1 + 1, 0, none⟩ (.int .i64 (x))).setCell ⟨w.heap.size + 1 + 1, 1, none⟩ (.int .i64 (sndY y true))).drew = X
    obtain ⟨r0, r1, r2, r3, r4⟩ := T1.out X hX.symm
    refine bodyPost_ret (v := .tuple #[spotV x y, spotV (x) (sndY y true)]) (by simp [results, Try.results161, go_sem, r0, r1, r2, r3]) rfl ⟨rfl, r4⟩
end Go.Proofs.Ytehnbalbpfmijaa

namespace Go.Proofs.Ytehnbalbpfmijaa
open Go.RowKit
set_option linter.unusedVariables false

/-- The number of a domino in the order. -/
def domM (x y : Nat) (d : Bool) : Nat := 2 ^ cix x y ||| (if d then 2 ^ cix x (y + 1) else 2 ^ cix (x + 1) y)
theorem domB_iff (x y : Int) (d : Bool) : domB x y d = true ↔ (0 ≤ x ∧ 0 ≤ y) ∧ if d then x ≤ 7 ∧ y ≤ 6 else x ≤ 6 ∧ y ≤ 7 := by
  unfold domB sndX sndY
  simp only [Bool.and_eq_true, spotB_iff]
  cases d
  · simp only [Bool.false_eq_true, if_false]
    constructor
    · rintro ⟨⟨⟨a, b⟩, c, e⟩, ⟨f, g⟩, h, i⟩
      have : wrap64 (x + 1) = x + 1 := IntWalk.wrap64_in _ (by omega)
      omega
    · rintro ⟨⟨a, b⟩, c, e⟩
      have : wrap64 (x + 1) = x + 1 := IntWalk.wrap64_in _ (by omega)
      omega
  · simp only [if_true]
    constructor
    · rintro ⟨⟨⟨a, b⟩, c, e⟩, ⟨f, g⟩, h, i⟩
      have : wrap64 (y + 1) = y + 1 := IntWalk.wrap64_in _ (by omega)
      omega
    · rintro ⟨⟨a, b⟩, c, e⟩
      have : wrap64 (y + 1) = y + 1 := IntWalk.wrap64_in _ (by omega)
      omega

set_option maxRecDepth 100000 in
set_option maxHeartbeats 2000000 in
theorem DominoOk_any (x y : Int) (d : Bool) (w : World) :
    Calls Try.prog 129 #[triV x y d] w fun e w' => e = .returned (.bool (domB x y d)) ∧ Below w.heap.size w w' := by
  have HF : Hid ((spotB 7 x y && spotB 7 (sndX x d) (sndY y d)) = domB x y d) := rfl
  generalize domB x y d = r at *
  have HB0 : Hid (Below w.heap.size w (w.alloc (.cells #[.int .i64 x, .int .i64 y, .bool d] 46))) := (Below.refl _ _).alloc (Nat.le_refl _) _
  generalize hx2 : sndX x d = x2 at *
  generalize hy2 : sndY y d = y2 at *
  have HX2 := Lib.hid hx2; have HY2 := Lib.hid hy2
  clear hx2 hy2
  cases c1 : spotB 7 x y
  all_goals cases c2 : spotB 7 x2 y2
  all_goals
    rw [c1, c2] at HF
    go_enter Try.func129, Try.ntmps129
    go_wp2_with fail
    refine (ends_any x y d _).mono ?_
    rintro e w1 ⟨rfl, hb1⟩
    rw [HX2.out, HY2.out]
    have HB1 := Lib.hid (HB0.out.trans (hb1.mono HB0.out.size))
    clear hb1
    go_wp2_with fail
    obtain ⟨W, hW, k1, k2, hb2⟩ := two_alloc w1 (.cells #[.int .i64 x, .int .i64 y] 44) (.cells #[.int .i64 x2, .int .i64 y2] 44)
    rw [← hW]
    have HB2 := Lib.hid (HB1.out.trans (hb2.mono HB1.out.size))
    have K2 := Lib.hid k2
    clear hW hb2 k1 k2
    refine (CellOk_any _ _ _).mono ?_
    rintro e w3 ⟨rfl, hb3⟩
    rw [c1]
    have k3 := blk_below K2.out hb3
    have HB3 := Lib.hid (HB2.out.trans (hb3.mono HB2.out.size))
    have e2 : w3.cell? ⟨w1.heap.size + 1, 0, none⟩ = some (.int .i64 x2) := by rw [blk_cell k3]; rfl
    have e3 : w3.cell? ⟨w1.heap.size + 1, 1, none⟩ = some (.int .i64 y2) := by rw [blk_cell k3]; rfl
    clear k3 hb3
    go_wp2_with fail
    first
      | (go_ret; exact ⟨ret_bool HF.out, HB3.out⟩)
      | (refine (CellOk_any _ _ _).mono ?_
         rintro e w4 ⟨rfl, hb4⟩
         rw [c2]
         go_wp2_with fail
         go_ret
         exact ⟨ret_bool HF.out, HB3.out.trans (hb4.mono HB3.out.size)⟩)

/-- Two cells of two numbers each, in a world that grows. -/
abbrev TwoC (W w' : World) (a b : Nat) (x y x2 y2 : Int) : Prop := w'.cell? ⟨a, 0, none⟩ = some (.int .i64 x) ∧ w'.cell? ⟨a, 1, none⟩ = some (.int .i64 y) ∧ w'.cell? ⟨b, 0, none⟩ = some (.int .i64 x2) ∧ w'.cell? ⟨b, 1, none⟩ = some (.int .i64 y2) ∧ W.heap.size ≤ w'.heap.size ∧ Below W.heap.size W w'
theorem TwoC.keep {W W0 w1 : World} {a b : Nat} {x y x2 y2 : Int} (hb : Below W0.heap.size W0 w1) (ha : a < W.heap.size) (hbb : b < W.heap.size) (h : TwoC W W0 a b x y x2 y2) : TwoC W w1 a b x y x2 y2 := by
  obtain ⟨h1, h2, h3, h4, h5, h6⟩ := h
  exact ⟨(hb.cell (by simp; omega)).trans h1, (hb.cell (by simp; omega)).trans h2, (hb.cell (by simp; omega)).trans h3, (hb.cell (by simp; omega)).trans h4, Nat.le_trans h5 hb.size, h6.trans (hb.mono h5)⟩
theorem TwoC.drew {W W0 : World} {a b : Nat} {x y x2 y2 : Int} (h : TwoC W W0 a b x y x2 y2) : TwoC W W0.drew a b x y x2 y2 := ⟨h.1, h.2.1, h.2.2.1, h.2.2.2.1, h.2.2.2.2.1, h.2.2.2.2.2.drew⟩
theorem orU (a b : Nat) (ha : a < 18446744073709551616) (hb : b < 18446744073709551616) : a ||| b < 18446744073709551616 := Nat.or_lt_two_pow (n := 64) ha hb
theorem domM_lt (x y : Nat) (d : Bool) (h : domB x y d = true) : domM x y d < 18446744073709551616 := by
  have hd := (domB_iff _ _ _).1 h
  have hp : ∀ k, k ≤ 63 → 2 ^ k < 18446744073709551616 := fun k hk => Nat.pow_lt_pow_right (a := 2) (m := k) (n := 64) (by omega) (by omega)
  unfold domM
  refine orU _ _ (hp _ (by unfold cix; cases d <;> simp at hd <;> omega)) ?_
  cases d
  · simp at hd ⊢; exact hp _ (by unfold cix; omega)
  · simp at hd ⊢; exact hp _ (by unfold cix; omega)
set_option maxRecDepth 100000 in
set_option maxHeartbeats 2000000 in
theorem dset_any (x y : Nat) (d : Bool) (w : World) (h : domB x y d = true) :
    Calls Try.prog 130 #[triV x y d] w fun e w' => e = .returned (.int .u64 (domM x y d : Nat)) ∧ Below w.heap.size w w' := by
  have hd := (domB_iff _ _ _).1 h
  obtain ⟨x2, y2, hx2, hy2, b1, b2, b3, b4, HM⟩ : ∃ x2 y2 : Nat, sndX x d = (x2 : Int) ∧ sndY y d = (y2 : Int) ∧ x ≤ 7 ∧ y ≤ 7 ∧ x2 ≤ 7 ∧ y2 ≤ 7 ∧ Hid ((0 ||| 2 ^ cix x y) ||| 2 ^ cix x2 y2 = domM x y d) := by
    cases d
    · simp at hd
      refine ⟨x + 1, y, ?_, rfl, by omega, by omega, by omega, by omega, ?_⟩
      · have : wrap64 ((x : Int) + 1) = (x : Int) + 1 := IntWalk.wrap64_in _ (by omega)
        simp [sndX, this]
      · unfold Hid domM; simp
    · simp at hd
      refine ⟨x, y + 1, rfl, ?_, by omega, by omega, by omega, by omega, ?_⟩
      · have : wrap64 ((y : Int) + 1) = (y : Int) + 1 := IntWalk.wrap64_in _ (by omega)
        simp [sndY, this]
      · unfold Hid domM; simp
  have HX2 := Lib.hid hx2; have HY2 := Lib.hid hy2
  have hk : cix x y ≤ 63 := by unfold cix; omega
  have hT : 0 ||| 2 ^ cix x y < 18446744073709551616 := with_lt (by omega) hk
  have HB0 : Hid (Below w.heap.size w (w.alloc (.cells #[.int .i64 (x : Int), .int .i64 (y : Int), .bool d] 46))) := (Below.refl _ _).alloc (Nat.le_refl _) _
  clear hx2 hy2 hd h
  go_enter Try.func130, Try.ntmps130
  go_wp2_with fail
  refine (ends_any x y d _).mono ?_
  rintro e w1 ⟨rfl, hb1⟩
  rw [HX2.out, HY2.out]
  have HB1 := Lib.hid (HB0.out.trans (hb1.mono HB0.out.size))
  clear hb1
  go_wp2_with fail
  obtain ⟨W, hW, k1, k2, hb2⟩ := two_alloc w1 (.cells #[.int .i64 (x : Int), .int .i64 (y : Int)] 44) (.cells #[.int .i64 (x2 : Int), .int .i64 (y2 : Int)] 44)
  rw [← hW]
  have HB2 := Lib.hid (HB1.out.trans (hb2.mono HB1.out.size))
  have HS : Hid (TwoC W W w1.heap.size (w1.heap.size + 1) x y x2 y2) :=
    ⟨by rw [blk_cell k1]; rfl, by rw [blk_cell k1]; rfl, by rw [blk_cell k2]; rfl, by rw [blk_cell k2]; rfl, Nat.le_refl _, Below.refl _ _⟩
  have L1 := Lib.hid (lt_of_block k1)
  have L2 := Lib.hid (lt_of_block k2)
  clear hW hb2 k1 k2
  obtain ⟨T1, HT1⟩ : ∃ T1 : Nat, Hid ((0 ||| 2 ^ cix x y : Nat) = T1) := ⟨_, rfl⟩
  rw [HT1.out] at HM hT
  have hC1 : Hid (∀ V, Calls Try.prog 80 #[.int .u64 0, spotV x y] V fun e w' => e = .returned (.int .u64 (T1 : Int)) ∧ Below V.heap.size V w') := fun V => by
    have h1 := with_yes 0 x y (by omega) b1 b2 V
    rw [HT1.out] at h1
    exact h1
  have hC2 : Hid (∀ V, Calls Try.prog 80 #[.int .u64 (T1 : Int), spotV x2 y2] V fun e w' => e = .returned (.int .u64 (domM x y d : Nat)) ∧ Below V.heap.size V w') := fun V => by
    have h1 := with_yes T1 x2 y2 hT b3 b4 V
    rw [HM.out] at h1
    exact h1
  go_region_held3 (fun w' => TwoC W w' w1.heap.size (w1.heap.size + 1) x y x2 y2)
      (first
        | exact HS.out.drew
        | exact TwoC.keep hb4 L1.out L2.out (by assumption))
      (first
        | (go_at_call 80; (with_reducible refine (hC1.out _).mono ?_); rintro e w4 ⟨rfl, hb4⟩)
        | (go_at_call 80; (with_reducible refine (hC2.out _).mono ?_); rintro e w4 ⟨rfl, hb4⟩))
  have HB4 := Lib.hid (HB2.out.trans ((show TwoC W w4 w1.heap.size (w1.heap.size + 1) x y x2 y2 from by assumption).2.2.2.2.2.mono HB2.out.size))
  go_wp2_with fail
  go_ret
  exact ⟨rfl, HB4.out⟩

/-- The number of a domino in the order. -/
def domO (x y : Nat) (d : Bool) : Nat := 2 * cix x y + if d then 1 else 0
set_option maxRecDepth 100000 in
set_option maxHeartbeats 2000000 in
theorem order_any (x y : Nat) (d : Bool) (w : World) (h : domB x y d = true) :
    Calls Try.prog 136 #[triV x y d] w fun e w' => e = .returned (.int .i64 (domO x y d : Nat)) ∧ Below w.heap.size w w' := by
  have hd := (domB_iff _ _ _).1 h
  have b1 : x ≤ 7 := by cases d <;> simp at hd <;> omega
  have b2 : y ≤ 7 := by cases d <;> simp at hd <;> omega
  have hk : cix x y ≤ 63 := by unfold cix; omega
  have HM : Hid (2 * ((cix x y : Nat) : Int) + (if d then 1 else 0) = ((domO x y d : Nat) : Int)) := by unfold Hid domO; cases d <;> simp
  obtain ⟨k, HK⟩ : ∃ k, Hid (cix x y = k) := ⟨_, rfl⟩
  rw [HK.out] at hk HM
  clear hd h
  obtain ⟨W, hW, k1, hb⟩ := one_alloc w (.cells #[.int .i64 (x : Int), .int .i64 (y : Int), .bool d] 46)
  have HBW := Lib.hid hb
  have HK1 := Lib.hid k1
  have HWW := Lib.hid hW
  clear hW k1 hb
  go_enter Try.func136, Try.ntmps136
  go_wp2_with fail
  rw [← HWW.out]
  refine (CellIndex_yes x y b1 b2 _).mono ?_
  rintro e w1 ⟨rfl, hb1⟩
  rw [HK.out]
  have k2 := blk_below HK1.out hb1
  have HB := Lib.hid (HBW.out.trans (hb1.mono HBW.out.size))
  have e1 : w1.cell? ⟨w.heap.size, 2, none⟩ = some (.bool d) := by rw [blk_cell k2]; rfl
  clear k2 hb1
  cases d
  all_goals
    go_wp2_with fail
    go_ret
    exact ⟨ret_int (by have := HM.out; simp at this; omega), HB.out⟩
end Go.Proofs.Ytehnbalbpfmijaa

namespace Go.Proofs.Ytehnbalbpfmijaa
open Go.RowKit
set_option linter.unusedVariables false

/-- A domino is ahead of another one. -/
def domLt (a b : Lk) : Bool := domB a.1 a.2.1 a.2.2 && domB b.1 b.2.1 b.2.2 && decide (domO a.1.toNat a.2.1.toNat a.2.2 < domO b.1.toNat b.2.1.toNat b.2.2)
theorem order_Z (x y : Int) (d : Bool) (w : World) (h : domB x y d = true) :
    Calls Try.prog 136 #[triV x y d] w fun e w' => e = .returned (.int .i64 (domO x.toNat y.toNat d : Nat)) ∧ Below w.heap.size w w' := by
  have hd := (domB_iff _ _ _).1 h
  obtain ⟨a, rfl⟩ := Int.eq_ofNat_of_zero_le hd.1.1
  obtain ⟨b, rfl⟩ := Int.eq_ofNat_of_zero_le hd.1.2
  exact order_any a b d w h
abbrev triO (x y : Int) (d : Bool) (t : TypeId) : Obj := .cells #[.int .i64 x, .int .i64 y, .bool d] t
/-- Two structs of three fields, in a world that grows. -/
abbrev TwoT (W w' : World) (a b : Nat) (p q : Lk) : Prop :=
  w'.cell? ⟨a, 0, none⟩ = some (.int .i64 p.1) ∧ w'.cell? ⟨a, 1, none⟩ = some (.int .i64 p.2.1) ∧ w'.cell? ⟨a, 2, none⟩ = some (.bool p.2.2) ∧
  w'.cell? ⟨b, 0, none⟩ = some (.int .i64 q.1) ∧ w'.cell? ⟨b, 1, none⟩ = some (.int .i64 q.2.1) ∧ w'.cell? ⟨b, 2, none⟩ = some (.bool q.2.2) ∧ W.heap.size ≤ w'.heap.size ∧ Below W.heap.size W w'
theorem TwoT.keep {W W0 w1 : World} {a b : Nat} {p q : Lk} (hb : Below W0.heap.size W0 w1) (ha : a < W.heap.size) (hbb : b < W.heap.size) (h : TwoT W W0 a b p q) : TwoT W w1 a b p q := by
  obtain ⟨h1, h2, h3, h4, h5, h6, h7, h8⟩ := h
  exact ⟨(hb.cell (by simp; omega)).trans h1, (hb.cell (by simp; omega)).trans h2, (hb.cell (by simp; omega)).trans h3, (hb.cell (by simp; omega)).trans h4, (hb.cell (by simp; omega)).trans h5, (hb.cell (by simp; omega)).trans h6, Nat.le_trans h7 hb.size, h8.trans (hb.mono h7)⟩
theorem TwoT.drew {W W0 : World} {a b : Nat} {p q : Lk} (h : TwoT W W0 a b p q) : TwoT W W0.drew a b p q := ⟨h.1, h.2.1, h.2.2.1, h.2.2.2.1, h.2.2.2.2.1, h.2.2.2.2.2.1, h.2.2.2.2.2.2.1, h.2.2.2.2.2.2.2.drew⟩
theorem TwoT.of {w W : World} {a b : Nat} {p q : Lk} {t t' : TypeId} (k1 : W.heap[a]? = some (triO p.1 p.2.1 p.2.2 t)) (k2 : W.heap[b]? = some (triO q.1 q.2.1 q.2.2 t')) : TwoT W W a b p q :=
  ⟨by rw [blk_cell k1]; rfl, by rw [blk_cell k1]; rfl, by rw [blk_cell k1]; rfl, by rw [blk_cell k2]; rfl, by rw [blk_cell k2]; rfl, by rw [blk_cell k2]; rfl, Nat.le_refl _, Below.refl _ _⟩

set_option maxRecDepth 100000 in
set_option maxHeartbeats 4000000 in
theorem Before_any (x y : Int) (d : Bool) (x' y' : Int) (d' : Bool) (w : World) :
    Calls Try.prog 166 #[triV x y d, triV x' y' d'] w fun e w' => e = .returned (.bool (domLt (x, y, d) (x', y', d'))) ∧ Below w.heap.size w w' := by
  obtain ⟨W, hW, k1, k2, hb⟩ := two_alloc w (triO x y d 46) (triO x' y' d' 46)
  have HW := Lib.hid hW
  have HB := Lib.hid hb
  have HS := Lib.hid (TwoT.of (w := w) (p := (x, y, d)) (q := (x', y', d')) k1 k2)
  have L1 := Lib.hid (lt_of_block k1)
  have L2 := Lib.hid (lt_of_block k2)
  clear hW k1 k2 hb
  cases h1 : domB x y d
  · have HF : Hid (false = domLt (x, y, d) (x', y', d')) := by unfold Hid domLt; simp [h1]
    generalize domLt (x, y, d) (x', y', d') = r at *
    have H1 := Lib.hid h1; clear h1
    go_enter Try.func166, Try.ntmps166
    go_wp2_with fail
    rw [← HW.out]
    obtain ⟨f1, f2, f3, f4, f5, f6, _, _⟩ := HS.out
    go_region_law (first
      | (go_simp; go_at_call 129; refine (DominoOk_any _ _ _ _).mono ?_; rintro e w1 ⟨rfl, hb1⟩; rw [H1.out]))
    all_goals
      go_wp2_with fail
      go_ret
      exact ⟨ret_bool HF.out, HB.out.trans ((Below.refl _ W).drew.trans (hb1.mono (Nat.le_refl _)) |>.mono HB.out.size)⟩
  · have H1 := Lib.hid h1
    cases h2 : domB x' y' d'
    · have HF : Hid (false = domLt (x, y, d) (x', y', d')) := by unfold Hid domLt; simp [h2]
      generalize domLt (x, y, d) (x', y', d') = r at *
      have H2 := Lib.hid h2; clear h1 h2
      go_enter Try.func166, Try.ntmps166
      go_wp2_with fail
      rw [← HW.out]
      obtain ⟨f1, f2, f3, f4, f5, f6, _, _⟩ := HS.out
      have HT0 := Lib.hid HS.out.drew
      go_region_law (first
        | (go_simp; go_at_call 129; (with_reducible refine (DominoOk_any x y d _).mono ?_); rintro e w1 ⟨rfl, hb1⟩; rw [H1.out]; have HT1 := Lib.hid (TwoT.keep hb1 L1.out L2.out HT0.out); obtain ⟨g1, g2, g3, g4, g5, g6, _, _⟩ := HT1.out)
        | (go_simp; go_at_call 129; (with_reducible refine (DominoOk_any x' y' d' _).mono ?_); rintro e w2 ⟨rfl, hb2⟩; rw [H2.out]; have HT2 := Lib.hid (TwoT.keep hb2 L1.out L2.out HT1.out)))
      all_goals
        go_wp2_with fail
        go_ret
        exact ⟨ret_bool HF.out, HB.out.trans (HT2.out.2.2.2.2.2.2.2.mono HB.out.size)⟩
    · have HF : Hid (decide (domO x.toNat y.toNat d < domO x'.toNat y'.toNat d') = domLt (x, y, d) (x', y', d')) := by unfold Hid domLt; simp [h1, h2]
      have H2 := Lib.hid h2
      have hC1 := Lib.hid fun V => order_Z x y d V h1
      have hC2 := Lib.hid fun V => order_Z x' y' d' V h2
      generalize domLt (x, y, d) (x', y', d') = r at *
      generalize domO x.toNat y.toNat d = n1 at *
      generalize domO x'.toNat y'.toNat d' = n2 at *
      clear h1 h2
      go_enter Try.func166, Try.ntmps166
      go_wp2_with fail
      rw [← HW.out]
      go_region_held3 (fun w' => TwoT W w' w.heap.size (w.heap.size + 1) (x, y, d) (x', y', d'))
        (first
          | exact HS.out.drew
          | exact TwoT.keep hb1 L1.out L2.out (by assumption))
        (first
          | (go_at_call 129; (with_reducible refine (DominoOk_any x y d _).mono ?_); rintro e w1 ⟨rfl, hb1⟩; rw [H1.out])
          | (go_at_call 129; (with_reducible refine (DominoOk_any x' y' d' _).mono ?_); rintro e w1 ⟨rfl, hb1⟩; rw [H2.out])
          | (go_at_call 136; (with_reducible refine (hC1.out _).mono ?_); rintro e w1 ⟨rfl, hb1⟩)
          | (go_at_call 136; (with_reducible refine (hC2.out _).mono ?_); rintro e w1 ⟨rfl, hb1⟩))
      have HB4 := Lib.hid (HB.out.trans ((show TwoT W w1 w.heap.size (w.heap.size + 1) (x, y, d) (x', y', d') from by assumption).2.2.2.2.2.2.2.mono HB.out.size))
      go_wp2_with fail
      go_ret
      exact ⟨ret_bool HF.out, HB4.out⟩
end Go.Proofs.Ytehnbalbpfmijaa

namespace Go.Proofs.Ytehnbalbpfmijaa
open Go.RowKit

theorem eqDomino_self (x y : Int) (d : Bool) (w : World) :
    Calls Try.prog 103 #[triV x y d, triV x y d] w fun e w' => e = .returned (.bool true) ∧ Below w.heap.size w w' := by
  have h1 : (x != x) = false := by simp
  have h2 : (y != y) = false := by simp
  cases d
  all_goals
    go_enter Try.func103, Try.ntmps103
    go_wp2
    go_ret
    exact ⟨rfl, ((Below.refl _ _).alloc (by (try simp) <;> omega) _).alloc (by (try simp) <;> omega) _⟩

set_option maxHeartbeats 2000000 in
theorem eqDominoS_self (u v : Value) (ls : List Lk) (B C : Nat) (w : World) (hu : RdF elDomino w B u ls) (hv : RdF elDomino w C v ls) (hB : B ≤ w.heap.size) (hC : C ≤ w.heap.size) :
    Calls Try.prog 37 #[u, v] w fun e w' => e = .returned (.bool true) ∧ Below w.heap.size w w' := by
  obtain ⟨A, c, rfl, g1, g2, G3⟩ := RdT.of (E := elDomino) rfl (fun _ => rfl) hu
  obtain ⟨A', c', rfl, g1', g2', G3'⟩ := RdT.of (E := elDomino) rfl (fun _ => rfl) hv
  unfold maxLen at g2 g2'
  clear hu hv
  go_enter Try.func37, Try.ntmps37
  go_wp2_with fail
  go_loopw [5] (fun i wr => ∃ k : Nat, k ≤ ls.length ∧ i = .int .i64 k ∧ Below w.heap.size w wr) (fun i _ => ls.length - (intOf i).toNat)
  case atStart => exact ⟨0, Nat.zero_le _, rfl, Below.refl _ _⟩
  case round =>
    obtain ⟨k, hk, rfl, hd⟩ := hrel
    by_cases hlt : k < ls.length
    · obtain ⟨ad, rfl, hb, hx, hy, hz⟩ := G3.out k hlt
      obtain ⟨ad', rfl, hb', hx', hy', hz'⟩ := G3'.out k hlt
      have hk0 : (0 : Int) ≤ (k : Int) := by omega
      have hk1 : (k : Int) < (ls.length : Int) := by omega
      have HS := Lib.hid (keepSix0 hd (show (ad.add (k * 3)).block < w.heap.size by rw [addBlock]; omega) (show (ad'.add (k * 3)).block < w.heap.size by rw [addBlock]; omega) ⟨hx, hy, hz, hx', hy', hz'⟩)
      have L1 := Lib.hid (show (ad.add (k * 3)).block < w.heap.size by rw [addBlock]; omega)
      have L2 := Lib.hid (show (ad'.add (k * 3)).block < w.heap.size by rw [addBlock]; omega)
      clear hx hy hz hx' hy' hz'
      go_wp2_with fail
      go_region_held3 (fun w' => SixS w w' (ad.add (k * 3)) (ad'.add (k * 3)) (lx ls k) (ly ls k) (ld ls k))
        (first
          | exact keepSix hb1 L1.out L2.out (by assumption)
          | exact drewSix HS.out)
        (first
          | (go_at_call 103; refine (eqDomino_self _ _ _ _).mono ?_; rintro e w1 ⟨rfl, hb1⟩))
      have hd2 := (show SixS w w1 _ _ _ _ _ from by assumption).2.2.2.2.2.2.2
      go_wp2_with fail
      go_roundw
      case rel => exact ⟨k + 1, by omega, by go_num, hd2⟩
      case measure => simp [intOf]; omega
    · go_wp2_with fail
      go_ret
      exact ⟨rfl, hd⟩

def MarkDominoPost (w : World) (lo : Nat) (v : Value) (n : Nat) (k : Int) (e : Ending) (w' : World) : Prop :=
  e = .returned (.int .i64 (k + 3 * (n : Int))) ∧ OwnF elDomino w' lo v (triIota k n) ∧ w.grownBy w' v.ownBlock

set_option maxHeartbeats 2000000 in
theorem markDominoS_any (v : Value) (ls : List Lk) (lo : Nat) (k : Int) (w : World) (h : OwnF elDomino w lo v ls) (hl : ls.length ≤ 1048576) (h1 : 0 ≤ k) (h2 : k ≤ 1099511627776) :
    Calls Try.prog 40 #[v, .int .i64 k] w (MarkDominoPost w lo v ls.length k) := by
  rcases Nat.eq_zero_or_pos ls.length with h0 | hpos
  · obtain ⟨A, c, hv, _, _, _⟩ := h.rd okDomino
    have hz : ls = [] := List.eq_nil_of_length_eq_zero h0
    subst hz
    have HH := Lib.hid h
    clear h
    rw [hv] at HH ⊢
    clear hv
    go_enter Try.func40, Try.ntmps40
    go_wp2_with fail
    go_loopw [1, 5] (fun a i wr => a = .int .i64 k ∧ i = .int .i64 0 ∧ w = wr) (fun _ _ _ => 0)
    case atStart => exact ⟨rfl, rfl, rfl⟩
    case round =>
      obtain ⟨rfl, rfl, rfl⟩ := hrel
      go_wp2_with fail
      go_ret
      exact ⟨ret_int (by simp), (show OwnF elDomino w lo (.slice A 0 c) [] from HH.out), World.grownBy.refl w _⟩
  · obtain ⟨g, cap, hv, hlo, hgl⟩ := World.ownsRow.form h hpos
    obtain ⟨A0, c0, e0, q1, q2, _⟩ := h.rd okDomino
    rw [hv] at e0
    obtain rfl : cap = c0 := by simp only [Value.slice.injEq] at e0; exact e0.2.2
    unfold maxLen at q2
    have HH := Lib.hid h
    clear h e0
    rw [hv] at HH ⊢
    clear hv
    go_enter Try.func40, Try.ntmps40
    go_wp2_with fail
    go_loopw [1, 5] (fun a i wr => ∃ j : Nat, j ≤ ls.length ∧ a = .int .i64 (k + 3 * (j : Int)) ∧ i = .int .i64 j ∧ Hid (OwnF elDomino wr lo (.slice (some ⟨g, 0, none⟩) (triTo ls k j).length cap) (triTo ls k j)) ∧ w.grownBy wr (some g)) (fun _ i _ => ls.length - (intOf i).toNat)
    case atStart => exact ⟨0, Nat.zero_le _, by simp, rfl, by (unfold Hid; rw [triTo_zero]; exact HH.out), World.grownBy.refl w _⟩
    case round =>
      obtain ⟨j, hj, rfl, rfl, HO, hgr⟩ := hrel
      by_cases hlt : j < ls.length
      · obtain ⟨hc0, hc1, hc2, hfr, ht⟩ := triStore okDomino rfl (fun _ => rfl) HO.out (j := j) (by rw [triTo_length]; exact hlt)
        obtain ⟨hst1, hst2⟩ := ht (k + 3 * (j : Int)) (k + 3 * (j : Int) + 1) ((k + 3 * (j : Int) + 1 + 1) % 3 == 0)
        rw [triTo_set ls k j hlt] at hst1
        have HN := Lib.hid hst1
        have HG := Lib.hid (hgr.trans hst2)
        clear hst1 hst2 ht
        have hk0 : (0 : Int) ≤ (j : Int) := by omega
        have hk1 : (j : Int) < (ls.length : Int) := by omega
        go_wp2_with fail
        go_roundw
        case rel => exact ⟨j + 1, by omega, by simp; omega, by go_num, HN, HG.out⟩
        case measure => simp [intOf]; omega
      · have HJ : Hid (j = ls.length) := by unfold Hid; omega
        go_wp2_with fail
        go_ret
        refine ⟨ret_int (by rw [HJ.out]), ?_, hgr⟩
        have ho := HO.out
        rw [triTo_length, HJ.out, triTo_all] at ho
        exact ho

set_option maxHeartbeats 2000000 in
theorem heldDominoS_any (v : Value) (n : Nat) (k : Int) (B : Nat) (w : World) (h : RdF elDomino w B v (triIota k n)) (hl : n ≤ 1048576) (h1 : 0 ≤ k) (h2 : k ≤ 1099511627776) :
    Calls Try.prog 41 #[v, .int .i64 k] w fun e w' => e = .returned (.int .i64 (k + 3 * (n : Int))) ∧ w = w' := by
  obtain ⟨A, c, rfl, g1, g2, G3⟩ := RdT.of (E := elDomino) rfl (fun _ => rfl) h
  rw [triIota_length] at *
  unfold maxLen at g2
  clear h
  go_enter Try.func41, Try.ntmps41
  go_wp2_with fail
  go_loop [1, 5] (fun a i => ∃ j : Nat, j ≤ n ∧ a = .int .i64 (k + 3 * (j : Int)) ∧ i = .int .i64 j) (fun _ i => n - (intOf i).toNat)
  case atStart => exact ⟨0, Nat.zero_le _, by simp, rfl⟩
  case round =>
    obtain ⟨j, hj, rfl, rfl⟩ := hrel
    by_cases hlt : j < n
    · obtain ⟨ad, rfl, hb, hx, hy, hz⟩ := G3.out j hlt
      rw [triIota_x _ _ _ hlt] at hx
      rw [triIota_y _ _ _ hlt] at hy
      rw [triIota_d _ _ _ hlt] at hz
      have hne : (k + 3 * (j : Int) != k + 3 * (j : Int)) = false := by simp
      have hne2 : (k + 3 * (j : Int) + 1 != k + 3 * (j : Int) + 1) = false := by simp
      go_wp2_with fail
      go_round
      case rel => exact ⟨j + 1, by omega, by simp; omega, by go_num⟩
      case measure => simp [intOf]; omega
    · have HJ : Hid (j = n) := by unfold Hid; omega
      go_wp2_with fail
      go_ret
      exact ⟨ret_int (by rw [HJ.out]), rfl⟩
end Go.Proofs.Ytehnbalbpfmijaa

namespace Go.Proofs.Ytehnbalbpfmijaa
open Go.RowKit
set_option linter.unusedVariables false

/-- Domino j of a list, and its cells. -/
def dAt (ls : List Lk) (j : Nat) : Lk := (lx ls j, ly ls j, ld ls j)
def domL (l : Lk) : Bool := domB l.1 l.2.1 l.2.2
def dM (l : Lk) : Nat := domM l.1.toNat l.2.1.toNat l.2.2
def covTo (ls : List Lk) : Nat → Nat
  | 0 => 0
  | k + 1 => if domL (dAt ls k) then covTo ls k ||| dM (dAt ls k) else covTo ls k
theorem dset_Z (x y : Int) (d : Bool) (w : World) (h : domB x y d = true) :
    Calls Try.prog 130 #[triV x y d] w fun e w' => e = .returned (.int .u64 (dM (x, y, d) : Nat)) ∧ Below w.heap.size w w' := by
  have hd := (domB_iff _ _ _).1 h
  obtain ⟨a, rfl⟩ := Int.eq_ofNat_of_zero_le hd.1.1
  obtain ⟨b, rfl⟩ := Int.eq_ofNat_of_zero_le hd.1.2
  exact dset_any a b d w h
theorem dM_lt {l : Lk} (h : domL l = true) : dM l < 18446744073709551616 := by
  obtain ⟨x, y, d⟩ := l
  have hd := (domB_iff _ _ _).1 h
  obtain ⟨a, rfl⟩ := Int.eq_ofNat_of_zero_le hd.1.1
  obtain ⟨b, rfl⟩ := Int.eq_ofNat_of_zero_le hd.1.2
  exact domM_lt a b d h
theorem covTo_lt (ls : List Lk) : ∀ k, covTo ls k < 18446744073709551616
  | 0 => by simp [covTo]
  | k + 1 => by
    rw [covTo]
    split
    · rename_i h; exact orU _ _ (covTo_lt ls k) (dM_lt h)
    · exact covTo_lt ls k
/-- One struct of three fields, in a world that grows. -/
abbrev OneT (W w' : World) (a : Nat) (x y : Int) (d : Bool) : Prop := w'.cell? ⟨a, 0, none⟩ = some (.int .i64 x) ∧ w'.cell? ⟨a, 1, none⟩ = some (.int .i64 y) ∧ w'.cell? ⟨a, 2, none⟩ = some (.bool d) ∧ W.heap.size ≤ w'.heap.size ∧ Below W.heap.size W w'
theorem OneT.keep {W W0 w1 : World} {a : Nat} {x y : Int} {d : Bool} (hb : Below W0.heap.size W0 w1) (ha : a < W.heap.size) (h : OneT W W0 a x y d) : OneT W w1 a x y d := by
  obtain ⟨h1, h2, h3, h7, h8⟩ := h
  exact ⟨(hb.cell (by simp; omega)).trans h1, (hb.cell (by simp; omega)).trans h2, (hb.cell (by simp; omega)).trans h3, Nat.le_trans h7 hb.size, h8.trans (hb.mono h7)⟩
theorem OneT.drew {W W0 : World} {a : Nat} {x y : Int} {d : Bool} (h : OneT W W0 a x y d) : OneT W W0.drew a x y d := ⟨h.1, h.2.1, h.2.2.1, h.2.2.2.1, h.2.2.2.2.drew⟩
theorem OneT.of {W : World} {a : Nat} {x y : Int} {d : Bool} {t : TypeId} (k1 : W.heap[a]? = some (triO x y d t)) : OneT W W a x y d :=
  ⟨by rw [blk_cell k1]; rfl, by rw [blk_cell k1]; rfl, by rw [blk_cell k1]; rfl, Nat.le_refl _, Below.refl _ _⟩

set_option maxRecDepth 100000 in
set_option maxHeartbeats 4000000 in
theorem covered_any (v : Value) (ls : List Lk) (B : Nat) (w : World) (h : RdF elDomino w B v ls) (hB : B ≤ w.heap.size) :
    Calls Try.prog 76 #[v] w fun e w' => e = .returned (.int .u64 (covTo ls ls.length : Nat)) ∧ Below w.heap.size w w' := by
  obtain ⟨A, c, rfl, g1, g2, G3⟩ := RdT.of (E := elDomino) rfl (fun _ => rfl) h
  unfold maxLen at g2
  clear h
  go_enter Try.func76, Try.ntmps76
  go_wp2_with fail
  go_loopw [3, 8] (fun s i wr => ∃ k : Nat, k ≤ ls.length ∧ i = .int .i64 k ∧ s = .int .u64 (covTo ls k : Nat) ∧ Hid (Below w.heap.size w wr)) (fun _ i _ => ls.length - (intOf i).toNat)
  case atStart => exact ⟨0, Nat.zero_le _, rfl, rfl, Below.refl _ _⟩
  case round =>
    obtain ⟨k, hk, rfl, rfl, HB⟩ := hrel
    by_cases hlt : k < ls.length
    · obtain ⟨ad, rfl, hbl, hx, hy, hz⟩ := G3.out k hlt
      have hbl2 : (ad.add (k * 3)).block < w.heap.size := by rw [addBlock]; omega
      have hx' := (HB.out.cell (p := ad.add (k * 3)) hbl2).trans hx
      have hy' := (HB.out.cell (p := ⟨(ad.add (k * 3)).block, (ad.add (k * 3)).off + 1, none⟩) hbl2).trans hy
      have hz' := (HB.out.cell (p := ⟨(ad.add (k * 3)).block, (ad.add (k * 3)).off + 2, none⟩) hbl2).trans hz
      have HT : Hid (covTo ls (k + 1) = if domB (lx ls k) (ly ls k) (ld ls k) then covTo ls k ||| dM (lx ls k, ly ls k, ld ls k) else covTo ls k) := rfl
      have HCL := Lib.hid (covTo_lt ls k)
      have HDL := Lib.hid (fun h => dM_lt (l := (lx ls k, ly ls k, ld ls k)) h)
      have HDS := Lib.hid (fun V h => dset_Z (lx ls k) (ly ls k) (ld ls k) V h)
      generalize lx ls k = x at *
      generalize ly ls k = y at *
      generalize ld ls k = d at *
      clear hx hy hz
      go_wp2_with fail
      obtain ⟨W, hW, k1, hbW⟩ := one_alloc wr (triO x y d 46)
      rw [← hW]
      have hT0 := OneT.of k1
      have HT0 := Lib.hid hT0
      have L1 := Lib.hid (lt_of_block k1)
      have HBW := Lib.hid (HB.out.trans (hbW.mono HB.out.size))
      clear hW k1 hbW hx' hy' hz' hT0
      refine (DominoOk_any x y d _).mono ?_
      rintro e w1 ⟨rfl, hb1⟩
      have hT1 := OneT.keep hb1 L1.out HT0.out
      have HB1 := Lib.hid (HBW.out.trans (hb1.mono HBW.out.size))
      obtain ⟨f1, f2, f3, _, _⟩ := hT1
      clear hb1
      cases hd : domB x y d
      · have HE : Hid (covTo ls (k + 1) = covTo ls k) := by unfold Hid; rw [HT.out, hd]; rfl
        clear HT
        go_wp2_with fail
        go_roundw
        case rel => exact ⟨k + 1, by omega, by go_num, by rw [HE.out], HB1⟩
        case measure => simp [intOf]; omega
      · have HE : Hid (covTo ls (k + 1) = covTo ls k ||| dM (x, y, d)) := by unfold Hid; rw [HT.out, hd]; rfl
        have HD1 := Lib.hid hd
        have HO := Lib.hid (u64_or_nat _ _ HCL.out (HDL.out hd))
        clear HT hd
        go_wp2_with fail
        refine (HDS.out _ HD1.out).mono ?_
        rintro e w2 ⟨rfl, hb2⟩
        have HB2 := Lib.hid (HB1.out.trans (hb2.mono HB1.out.size))
        go_wp2_with fail
        go_roundw
        case rel => exact ⟨k + 1, by omega, by go_num, by rw [HE.out, HO.out], HB2⟩
        case measure => simp [intOf]; omega
    · have HK : Hid (k = ls.length) := by unfold Hid; omega
      go_wp2_with fail
      go_ret
      exact ⟨congrArg (fun n : Nat => Ending.returned (.int .u64 (covTo ls n : Int))) HK.out, HB.out⟩
end Go.Proofs.Ytehnbalbpfmijaa
