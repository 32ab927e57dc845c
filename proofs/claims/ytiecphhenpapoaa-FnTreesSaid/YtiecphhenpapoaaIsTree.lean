/- Contracts of IsTree of the program and of the reference. -/
import Derived.Test.YtiecphhenpapoaaRooted
import Derived.Test.YtiecphhenpapoaaLkIx
import Derived.Test.YtiecphhenpapoaaGroups
namespace Go.Proofs.Ytiecphhenpapoaa
open Go.RowKit
set_option linter.unusedVariables false

/-! ### The plain law -/
def treeB (w h : Int) (ls : List Lk) : Bool := gridB w h && (decide ((ls.length : Int) = w * h - 1) && ((ls.all fun l => (linksZ w h).contains l) && okAll (List.range (w.toNat * h.toNat)) (ls.map (lkN w.toNat))))
theorem treeB_no {w h : Int} {ls : List Lk} (hx : gridB w h = false) : treeB w h ls = false := by simp [treeB, hx]
theorem treeB_len {w h : Int} {ls : List Lk} (hx : ¬ (ls.length : Int) = w * h - 1) : treeB w h ls = false := by simp [treeB, hx]
theorem lkEq_iff (ls : List Lk) (x y : Int) (d : Bool) (i : Nat) (hi : i < ls.length) : lkEq ls x y d i = true ↔ ls[i] = (x, y, d) := by
  rw [lk_at _ _ hi]; simp [lkEq]
theorem lkEq_none (ls : List Lk) (x y : Int) (d : Bool) : fstZ (lkEq ls x y d) ls.length 0 < 0 ↔ (x, y, d) ∉ ls := by
  rcases fstZ_spec (lkEq ls x y d) ls.length 0 with ⟨h1, h2⟩ | ⟨j, h1, _, h3, h4, _⟩
  · rw [h1]
    refine ⟨fun _ hm => ?_, fun _ => by omega⟩
    obtain ⟨i, hi, e⟩ := List.getElem_of_mem hm
    have := h2 i (by omega) (by omega)
    rw [(lkEq_iff ls x y d i hi).2 e] at this; simp at this
  · rw [h1]
    refine ⟨fun h => by omega, fun h => absurd ?_ h⟩
    rw [← (lkEq_iff ls x y d j (by omega)).1 h4]; exact List.getElem_mem _
/-- Each link is there once. -/
def Once (ls : List Lk) (k : Nat) : Prop := ∀ j, (h : j < ls.length) → j < k → fstZ (lkEq ls (lx ls j) (ly ls j) (ld ls j)) ls.length 0 = (j : Int)
theorem once_ne {ls : List Lk} {i j : Nat} (hj : j < ls.length) (hij : i < j) (h : ls[i]'(by omega) = ls[j]) : fstZ (lkEq ls (lx ls j) (ly ls j) (ld ls j)) ls.length 0 ≠ (j : Int) := by
  intro e
  rcases fstZ_spec (lkEq ls (lx ls j) (ly ls j) (ld ls j)) ls.length 0 with ⟨h1, _⟩ | ⟨j', h1, _, _, _, h5⟩
  · omega
  · have : j' = j := by omega
    subst this
    have := h5 i (by omega) hij
    rw [(lkEq_iff ls _ _ _ i (by omega)).2 (by rw [h, lk_at _ _ hj])] at this
    simp at this
theorem ne_once {ls : List Lk} {j : Nat} (hj : j < ls.length) (h : fstZ (lkEq ls (lx ls j) (ly ls j) (ld ls j)) ls.length 0 ≠ (j : Int)) : ∃ i, ∃ hi : i < j, ls[i]'(by omega) = ls[j] := by
  have hp : lkEq ls (lx ls j) (ly ls j) (ld ls j) j = true := (lkEq_iff ls _ _ _ j hj).2 (lk_at _ _ hj)
  rcases fstZ_spec (lkEq ls (lx ls j) (ly ls j) (ld ls j)) ls.length 0 with ⟨_, h2⟩ | ⟨i, h1, _, h3, h4, h5⟩
  · have := h2 j (by omega) (by omega); rw [hp] at this; simp at this
  · rcases Nat.lt_trichotomy i j with c | c | c
    · exact ⟨i, c, by rw [(lkEq_iff ls _ _ _ i (by omega)).1 h4, ← lk_at _ _ hj]⟩
    · subst c; exact absurd h1 h
    · have := h5 j (by omega) c; rw [hp] at this; simp at this
/-- All valid: the ends of the links are posts. -/
theorem ends_lt {a b : Nat} (hg : gridB a b = true) {ls : List Lk} (h : ∀ l ∈ ls, l ∈ linksZ a b) : ∀ e ∈ ls.map (lkN a), e.1 < a * b ∧ e.2 < a * b := by
  intro e he
  obtain ⟨⟨x, y, d⟩, hm, rfl⟩ := List.mem_map.1 he
  obtain ⟨p, q, _, _, h3, h4, _, h5, _⟩ := lk_ends ((tree_facts a b hg).1 _ (h _ hm))
  rw [h5]; exact ⟨h3, h4⟩
/-- Two alike: no tree. -/
theorem treeB_twice {a b : Nat} {ls : List Lk} {i j : Nat} (hj : j < ls.length) (hij : i < j) (h : ls[i]'(by omega) = ls[j]) : treeB a b ls = false := by
  cases ht : treeB a b ls
  · rfl
  · unfold treeB at ht
    simp only [Bool.and_eq_true, List.all_eq_true] at ht
    obtain ⟨hg, _, hin, hok⟩ := ht
    have hin' : ∀ l ∈ ls, l ∈ linksZ a b := fun l hl => by simpa using hin l hl
    have hnd := (ok_pair (ls.map (lkN a)) (List.range (a * b)) (a * b) (by simp) (ends_lt hg hin') (by simpa using hok)).1
    refine absurd ?_ (List.pairwise_iff_getElem.1 hnd i j (by rw [List.length_map]; omega) (by rw [List.length_map]; omega) hij)
    rw [List.getElem_map, List.getElem_map, h]
theorem treeB_out {a b : Nat} {ls : List Lk} {j : Nat} (hj : j < ls.length) (h : ls[j] ∉ linksZ a b) : treeB a b ls = false := by
  cases ht : treeB a b ls
  · rfl
  · unfold treeB at ht
    simp only [Bool.and_eq_true, List.all_eq_true] at ht
    exact absurd (by simpa using ht.2.2.1 _ (List.getElem_mem hj)) h
/-- The answer at the end. -/
theorem treeB_end {a b : Nat} {ls : List Lk} {zs : List Int} (hg : gridB a b = true) (hl : (ls.length : Int) = (a : Int) * (b : Int) - 1) (hin : ∀ j, (h : j < ls.length) → ls[j] ∈ linksZ a b)
    (hz : zs.length = a * b) (hlow : ∀ i, i < a * b → -1 ≤ el zs i) (hc : ∀ i, i < a * b → (0 ≤ el zs i ↔ Con (ls.map (lkN a)) 0 i)) : decide (fstZ (fun i => el zs i == -1) zs.length 0 < 0) = treeB a b ls := by
  have hin' : ∀ l ∈ ls, l ∈ linksZ a b := fun l hl => by obtain ⟨j, hj, rfl⟩ := List.getElem_of_mem hl; exact hin j hj
  have hb := (gridB_iff _ _).1 hg
  have hp : 0 < a * b := Nat.mul_pos (by omega) (by omega)
  have hll : ls.length = a * b - 1 := by have : (a : Int) * (b : Int) = ((a * b : Nat) : Int) := by simp
                                         omega
  have ht := tree_iff (n := a * b) (ls.map (lkN a)) hp (by rw [List.length_map]; exact hll) (ends_lt hg hin')
  have e0 : treeB a b ls = okAll (List.range (a * b)) (ls.map (lkN a)) := by
    have : (ls.all fun l => (linksZ a b).contains l) = true := by rw [List.all_eq_true]; intro l h9; simpa using hin' l h9
    unfold treeB
    rw [hg, this, decide_eq_true hl]
    simp
  rw [e0, Bool.eq_iff_iff, decide_eq_true_iff, ht]
  rcases fstZ_spec (fun i => el zs i == -1) zs.length 0 with ⟨h1, h2⟩ | ⟨j, h1, _, h3, h4, _⟩
  · rw [h1]
    refine ⟨fun _ i hi => (hc i hi).1 ?_, fun _ => by omega⟩
    have := h2 i (by omega) (by omega)
    have hne : el zs i ≠ -1 := by simpa using this
    have := hlow i hi
    omega
  · rw [h1]
    refine ⟨fun h => by omega, fun h => ?_⟩
    have := (hc j (by omega)).2 (h j (by omega))
    have : el zs j = -1 := by simpa using h4
    omega
/-- One link after the other. -/
theorem ok_drop {g : List Nat} {es : List (Nat × Nat)} {k : Nat} (hk : k < es.length) : okAll g (es.drop k) = if gi g es[k].1 = gi g es[k].2 then false else okAll (joinF g es[k]) (es.drop (k + 1)) := by
  rw [List.drop_eq_getElem_cons hk, okAll]

/-! ### The program -/
set_option maxRecDepth 100000 in
set_option maxHeartbeats 8000000 in
theorem IsTree_any (p q : Int) (u : Value) (ls : List Lk) (B : Nat) (w : World) (hu : RdF elLink w B u ls) (hB : B ≤ w.heap.size) :
    Calls Try.prog 31 #[.int .i64 p, .int .i64 q, u] w fun e w' => e = .returned (.bool (treeB p q ls)) ∧ Below w.heap.size w w' := by
  have HU := Lib.hid hu
  obtain ⟨A, c, rfl, g1, g2, G3⟩ := RdT.of (E := elLink) rfl (fun _ => rfl) hu
  unfold maxLen at g2
  clear hu
  cases hg : gridB p q
  · rw [treeB_no hg]
    go_enter Try.func31, Try.ntmps31
    go_wp2_with fail
    refine (GridOk_any _ _ _).mono ?_
    rintro e w1 ⟨rfl, rfl⟩
    rw [hg]
    go_wp2_with fail
    go_ret
    exact ⟨rfl, Below.refl _ _⟩
  · have hb := (gridB_iff _ _).1 hg
    obtain ⟨a, rfl⟩ := Int.eq_ofNat_of_zero_le (show 0 ≤ p by omega)
    obtain ⟨b, rfl⟩ := Int.eq_ofNat_of_zero_le (show 0 ≤ q by omega)
    have hab16 : a * b ≤ 16 := Nat.mul_le_mul (show a ≤ 4 by omega) (show b ≤ 4 by omega)
    have hab1 : 0 < a * b := Nat.mul_pos (by omega) (by omega)
    have hm : (a : Int) * (b : Int) = ((a * b : Nat) : Int) := by simp
    have m1 : 0 < (a : Int) * (b : Int) := by omega
    have m2 : (a : Int) * (b : Int) ≤ 16 := by omega
    by_cases hlen : (ls.length : Int) = (a : Int) * (b : Int) - 1
    · have t1 : ((ls.length : Int) != (a : Int) * (b : Int) - 1) = false := by simp [hlen]
      have HLEN := Lib.hid hlen
      obtain ⟨all, HALL⟩ : ∃ x, Hid (linksZ (a : Int) b = x) := ⟨_, rfl⟩
      clear hlen hm
      go_enter Try.func31, Try.ntmps31
      go_wp2_with fail
      refine (GridOk_any _ _ _).mono ?_
      rintro e w1 ⟨rfl, rfl⟩
      rw [hg]
      go_wp2_with fail
      refine (LinksOf_any _ _ _).mono ?_
      rintro e w1 ⟨v1, rfl, ho1, hb1⟩
      rw [HALL.out] at ho1
      have HO1 := Lib.hid ho1
      have HB1 := Lib.hid hb1
      clear ho1 hb1
      go_wp2_with fail
      go_loopw [28] (fun s wr => ∃ k : Nat, k ≤ ls.length ∧ s = .int .i64 k ∧ Hid (Below w1.heap.size w1 wr) ∧ Hid (∀ j, (h : j < ls.length) → j < k → ls[j] ∈ all) ∧ Hid (Once ls k)) (fun s _ => ls.length - (intOf s).toNat)
      case atStart => exact ⟨0, Nat.zero_le _, rfl, Below.refl _ _, fun j _ h => by omega, fun j _ h => by omega⟩
      case round =>
        obtain ⟨k, hk, rfl, HB, HIN, HON⟩ := hrel
        by_cases hlt : k < ls.length
        · have ht : decide ((k : Int) < (ls.length : Int)) = true := by simp only [decide_eq_true_eq]; omega
          obtain ⟨ad, rfl, had, hx, hy, hz⟩ := G3.out k hlt
          have hbw := HB1.out.trans (HB.out.mono HB1.out.size)
          have hx' := (hbw.cell (p := ad.add (k * 3)) (by rw [addBlock]; omega)).trans hx
          have hy' := (hbw.cell (p := ⟨(ad.add (k * 3)).block, (ad.add (k * 3)).off + 1, none⟩) (by show (ad.add (k * 3)).block < _; rw [addBlock]; omega)).trans hy
          have hz' := (hbw.cell (p := ⟨(ad.add (k * 3)).block, (ad.add (k * 3)).off + 2, none⟩) (by show (ad.add (k * 3)).block < _; rw [addBlock]; omega)).trans hz
          have hk0 : (0 : Int) ≤ (k : Int) := by omega
          have hk1 : (k : Int) < (ls.length : Int) := by omega
          have hlk := lk_at ls k hlt
          have HMEM : Hid (fstZ (lkEq all (lx ls k) (ly ls k) (ld ls k)) all.length 0 < 0 ↔ ls[k] ∉ all) := by unfold Hid; rw [hlk]; exact lkEq_none _ _ _ _
          have HOUT : Hid (ls[k] ∉ all → treeB a b ls = false) := fun h => treeB_out hlt (by rw [HALL.out]; exact h)
          have HTW : Hid (fstZ (lkEq ls (lx ls k) (ly ls k) (ld ls k)) ls.length 0 ≠ (k : Int) → treeB a b ls = false) := fun h => by
            obtain ⟨i, hi, e⟩ := ne_once hlt h
            exact treeB_twice hlt hi e
          have HIN2 : Hid (ls[k] ∈ all → ∀ j, (h : j < ls.length) → j < k + 1 → ls[j] ∈ all) := fun h j hj hjk => by
            by_cases e : j = k
            · subst e; exact h
            · exact HIN.out j hj (by omega)
          have HON2 : Hid (fstZ (lkEq ls (lx ls k) (ly ls k) (ld ls k)) ls.length 0 = (k : Int) → Once ls (k + 1)) := fun h j hj hjk => by
            by_cases e : j = k
            · subst e; exact h
            · exact HON.out j hj (by omega)
          have HAL := Lib.hid (hbw.trans (((Below.refl wr.heap.size wr).alloc (Nat.le_refl _) (.cells #[.int .i64 (lx ls k), .int .i64 (ly ls k), .bool (ld ls k)] 101)).mono hbw.size))
          have HAL2 := Lib.hid (HB.out.trans (((Below.refl wr.heap.size wr).alloc (Nat.le_refl _) (.cells #[.int .i64 (lx ls k), .int .i64 (ly ls k), .bool (ld ls k)] 101)).mono HB.out.size))
          have hblk := heap_alloc_new wr (.cells #[.int .i64 (lx ls k), .int .i64 (ly ls k), .bool (ld ls k)] 101)
          have HBLK := Lib.hid hblk
          clear hx hy hz hbw hlk HIN HON hblk
          generalize lx ls k = x at *
          generalize ly ls k = y at *
          generalize ld ls k = d at *
          go_wp2_with fail
          refine (linkIndex_any _ all _ _ _ _ _ ((HO1.out.rd okLink).below HAL2.out) HAL2.out.size).mono ?_
          rintro e w3 ⟨rfl, hb3⟩
          have hbk := (hb3.block wr.heap.size (by simp)).trans HBLK.out
          have HB3 := Lib.hid (HAL.out.trans (hb3.mono HAL.out.size))
          have HB3' := Lib.hid (HAL2.out.trans (hb3.mono HAL2.out.size))
          have b0 : w3.cell? ⟨wr.heap.size, 0, none⟩ = some (.int .i64 x) := by rw [blk_cell hbk]; rfl
          have b1 : w3.cell? ⟨wr.heap.size, 1, none⟩ = some (.int .i64 y) := by rw [blk_cell hbk]; rfl
          have b2 : w3.cell? ⟨wr.heap.size, 2, none⟩ = some (.bool d) := by rw [blk_cell hbk]; rfl
          clear hb3 hbk HAL HAL2 HBLK
          generalize fstZ (lkEq all x y d) all.length 0 = z1 at *
          by_cases hz1 : z1 < 0
          · have HF := Lib.hid (HOUT.out (HMEM.out.1 hz1))
            clear HOUT HMEM HTW HIN2 HON2
            go_wp2_with fail
            go_ret
            exact ⟨ret_bool HF.out.symm, HB3.out⟩
          · have hmem : ls[k] ∈ all := Decidable.byContradiction fun h => hz1 (HMEM.out.2 h)
            have HIN3 := Lib.hid (HIN2.out hmem)
            clear HOUT HMEM HIN2 hmem
            go_wp2_with fail
            refine (linkIndex_any _ ls _ _ _ _ _ (HU.out.below (HB3.out.mono hB)) (Nat.le_trans hB HB3.out.size)).mono ?_
            rintro e w4 ⟨rfl, hb4⟩
            have HB4 := Lib.hid (HB3.out.trans (hb4.mono HB3.out.size))
            have HB4' := Lib.hid (HB3'.out.trans (hb4.mono HB3'.out.size))
            clear hb4 b0 b1 b2
            generalize fstZ (lkEq ls x y d) ls.length 0 = z2 at *
            by_cases hz2 : z2 = (k : Int)
            · have HON3 := Lib.hid (HON2.out hz2)
              subst hz2
              have hnn : ((k : Int) != (k : Int)) = false := by simp
              clear HTW HON2
              go_wp2_with fail
              go_roundw
              case rel => exact ⟨k + 1, by omega, by go_num, HB4', HIN3, HON3⟩
              case measure => simp [intOf]; omega
            · have HF := Lib.hid (HTW.out hz2)
              have hnn : (z2 != (k : Int)) = true := by rw [bne_iff_ne]; exact hz2
              clear HTW HON2
              go_wp2_with fail
              go_ret
              exact ⟨ret_bool HF.out.symm, HB4.out⟩
        · have ht : decide ((k : Int) < (ls.length : Int)) = false := by simp only [decide_eq_false_iff_not]; omega
          have HIN2 : Hid (∀ j, (h : j < ls.length) → ls[j] ∈ linksZ a b) := fun j hj => by rw [HALL.out]; exact HIN.out j hj (by omega)
          have hbw := Lib.hid (HB1.out.trans (HB.out.mono HB1.out.size))
          go_wp2_with fail
          refine (rooted_any a b (a * b) _ ls _ _ (HU.out.below (hbw.out.mono hB)) (Nat.le_trans hB hbw.out.size) (by omega) (by omega) rfl (fun l hl => (tree_facts a b hg).1 l (by obtain ⟨j, hj, rfl⟩ := List.getElem_of_mem hl; exact HIN2.out j hj))).mono ?_
          rintro e w3 ⟨v3, zs, rfl, hr3, hz1, hz2, hz3, hb3⟩
          have HE := Lib.hid (treeB_end hg HLEN.out HIN2.out hz1 hz2 hz3)
          have HR3 := Lib.hid hr3
          have HB3 := Lib.hid (hbw.out.trans (hb3.mono hbw.out.size))
          clear hr3 hz1 hz2 hz3 hb3
          go_wp2_with fail
          refine (indexOf_any _ zs _ _ _ HR3.out).mono ?_
          rintro e w4 ⟨rfl, rfl⟩
          generalize fstZ (fun i => el zs i == -1) zs.length 0 = z at *
          go_wp2_with fail
          go_ret
          exact ⟨ret_bool HE.out, HB3.out⟩
    · rw [treeB_len hlen]
      have t1 : ((ls.length : Int) != (a : Int) * (b : Int) - 1) = true := by rw [bne_iff_ne]; exact hlen
      clear hlen hm
      go_enter Try.func31, Try.ntmps31
      go_wp2_with fail
      refine (GridOk_any _ _ _).mono ?_
      rintro e w1 ⟨rfl, rfl⟩
      rw [hg]
      go_wp2_with fail
      go_ret
      exact ⟨rfl, Below.refl _ _⟩

/-! ### The reference -/
set_option maxRecDepth 100000 in
set_option maxHeartbeats 8000000 in
theorem specIsTree_any (p q : Int) (u : Value) (ls : List Lk) (B : Nat) (w : World) (hu : RdF elLink w B u ls) (hB : B ≤ w.heap.size) :
    Calls Try.prog 129 #[.int .i64 p, .int .i64 q, u] w fun e w' => e = .returned (.bool (treeB p q ls)) ∧ Below w.heap.size w w' := by
  have HU := Lib.hid hu
  obtain ⟨A, c, rfl, g1, g2, G3⟩ := RdT.of (E := elLink) rfl (fun _ => rfl) hu
  unfold maxLen at g2
  clear hu
  cases hg : gridB p q
  · rw [treeB_no hg]
    go_enter Try.func129, Try.ntmps129
    go_wp2_with fail
    refine (specGridOk_any _ _ _).mono ?_
    rintro e w1 ⟨rfl, rfl⟩
    rw [hg]
    go_wp2_with fail
    go_ret
    exact ⟨rfl, Below.refl _ _⟩
  · have hb := (gridB_iff _ _).1 hg
    obtain ⟨a, rfl⟩ := Int.eq_ofNat_of_zero_le (show 0 ≤ p by omega)
    obtain ⟨b, rfl⟩ := Int.eq_ofNat_of_zero_le (show 0 ≤ q by omega)
    have hab16 : a * b ≤ 16 := Nat.mul_le_mul (show a ≤ 4 by omega) (show b ≤ 4 by omega)
    have hab1 : 0 < a * b := Nat.mul_pos (by omega) (by omega)
    have hm : (a : Int) * (b : Int) = ((a * b : Nat) : Int) := by simp
    have m1 : 0 < (a : Int) * (b : Int) := by omega
    have m2 : (a : Int) * (b : Int) ≤ 16 := by omega
    by_cases hlen : (ls.length : Int) = (a : Int) * (b : Int) - 1
    · have t1 : ((ls.length : Int) != (a : Int) * (b : Int) - 1) = false := by simp [hlen]
      have HLEN := Lib.hid hlen
      have hall := linksZ_len a b
      obtain ⟨all, HALL⟩ : ∃ x, Hid (linksZ (a : Int) b = x) := ⟨_, rfl⟩
      obtain ⟨n, HN⟩ : ∃ x, Hid (a * b = x) := ⟨_, rfl⟩
      rw [HN.out] at hm hab16 hab1
      rw [HALL.out] at hall
      have HM := Lib.hid hm
      obtain ⟨es, HES⟩ : ∃ x, Hid (ls.map (lkN a) = x) := ⟨_, rfl⟩
      have HEL : Hid (es.length = ls.length) := by unfold Hid; rw [← HES.out, List.length_map]
      clear hlen hm
      go_enter Try.func129, Try.ntmps129
      go_wp2_with fail
      refine (specGridOk_any _ _ _).mono ?_
      rintro e w1 ⟨rfl, rfl⟩
      rw [hg]
      go_wp2_with fail
      refine (specLinksOf_any _ _ _).mono ?_
      rintro e w1 ⟨v1, rfl, ho1, hb1⟩
      rw [HALL.out] at ho1
      obtain ⟨A1, c1, hv1, gg1, gg2, GG3⟩ := RdT.of (E := elLink) rfl (fun _ => rfl) (ho1.rd okLink)
      unfold maxLen at gg2
      subst hv1
      have HB1 := Lib.hid hb1
      clear ho1 hb1
      go_wp2_with fail
      rw [HM.out]
      refine (l23Groups_any n _ (by omega)).mono ?_
      rintro e w2 ⟨v2, rfl, ho2, hb2⟩
      obtain ⟨gg, cg, hv2, hgb, hgl⟩ := World.ownsRow.form ho2 (by rw [natI_length]; simp; exact hab1)
      rw [natI_length, List.length_range] at hv2
      subst hv2
      have HB2 := Lib.hid (HB1.out.trans (hb2.mono HB1.out.size))
      have HB2' := Lib.hid hb2
      have HO2 := Lib.hid ho2
      have HRUN : Hid (treeB a b ls = (decide (∀ j, (h : j < ls.length) → 0 ≤ j → ls[j] ∈ all) && okAll (List.range n) (es.drop 0))) := by
        unfold Hid treeB
        rw [hg, decide_eq_true HLEN.out, Bool.true_and, Bool.true_and, List.drop_zero, Int.toNat_natCast, Int.toNat_natCast, HN.out, HES.out, HALL.out]
        congr 1
        rw [Bool.eq_iff_iff, decide_eq_true_iff, List.all_eq_true]
        refine ⟨fun h j hj _ => by simpa using h _ (List.getElem_mem hj), fun h l hl => ?_⟩
        obtain ⟨j, hj, rfl⟩ := List.getElem_of_mem hl
        simpa using h j hj (Nat.zero_le _)
      clear ho2 hb2
      go_wp2_with fail
      go_loopw [9] (fun s wr => ∃ (k : Nat) (gs : List Nat), k ≤ ls.length ∧ s = .int .i64 k ∧ Hid (OwnI wr w1.heap.size (.slice (some ⟨gg, 0, none⟩) n cg) (natI gs)) ∧ Hid (Below w1.heap.size w1 wr) ∧ Hid (gs.length = n) ∧ Hid (treeB a b ls = (decide (∀ j, (h : j < ls.length) → k ≤ j → ls[j] ∈ all) && okAll gs (es.drop k)))) (fun s _ => ls.length - (intOf s).toNat)
      case atStart => exact ⟨0, _, Nat.zero_le _, rfl, HO2, HB2', by (unfold Hid; simp), HRUN⟩
      case round =>
        obtain ⟨k, gs, hk, rfl, HO, HB, HGL, HT⟩ := hrel
        by_cases hlt : k < ls.length
        · have ht : decide ((k : Int) < (ls.length : Int)) = true := by simp only [decide_eq_true_eq]; omega
          obtain ⟨ad, rfl, had, hx, hy, hz⟩ := G3.out k hlt
          have hbw := HB1.out.trans (HB.out.mono HB1.out.size)
          have hx' := (hbw.cell (p := ad.add (k * 3)) (by rw [addBlock]; omega)).trans hx
          have hy' := (hbw.cell (p := ⟨(ad.add (k * 3)).block, (ad.add (k * 3)).off + 1, none⟩) (by show (ad.add (k * 3)).block < _; rw [addBlock]; omega)).trans hy
          have hz' := (hbw.cell (p := ⟨(ad.add (k * 3)).block, (ad.add (k * 3)).off + 2, none⟩) (by show (ad.add (k * 3)).block < _; rw [addBlock]; omega)).trans hz
          have hk0 : (0 : Int) ≤ (k : Int) := by omega
          have hk1 : (k : Int) < (ls.length : Int) := by omega
          have hlk := lk_at ls k hlt
          have HLK := Lib.hid hlk
          have HSP : Hid (∀ g : List Nat, okAll g (es.drop k) = if gi g (lkN a (lx ls k, ly ls k, ld ls k)).1 = gi g (lkN a (lx ls k, ly ls k, ld ls k)).2 then false else okAll (joinF g (lkN a (lx ls k, ly ls k, ld ls k))) (es.drop (k + 1))) := by
            intro g
            have hke : k < es.length := by have := HEL.out; omega
            have he : es[k] = lkN a (lx ls k, ly ls k, ld ls k) := by
              have h9 : es[k]? = some (lkN a (lx ls k, ly ls k, ld ls k)) := by rw [← HES.out, List.getElem?_map, lk_get _ _ hlt]; rfl
              rw [List.getElem?_eq_getElem hke] at h9
              exact Option.some.inj h9
            rw [ok_drop hke, he]
          clear hx hy hz hbw hlk
          generalize lx ls k = x at *
          generalize ly ls k = y at *
          generalize ld ls k = d at *
          obtain ⟨W3, HW3⟩ : ∃ W, Hid (W = wr) := ⟨_, rfl⟩
          go_wp2_with fail
          go_loopw [10, 11] (fun t s wr2 => ∃ i : Nat, i ≤ all.length ∧ s = .int .i64 i ∧ t = .bool ((List.range i).any fun j => lkEq all x y d j) ∧ Hid (Drawn W3 wr2)) (fun _ s _ => all.length - (intOf s).toNat)
          case atStart => exact ⟨0, Nat.zero_le _, rfl, rfl, by rw [HW3.out]; exact Drawn.refl _⟩
          case round =>
            obtain ⟨i, hi, rfl, rfl, HD⟩ := hrel
            rw [← HW3.out] at hx' hy' hz' HO HB
            by_cases hli : i < all.length
            · have hti : decide ((i : Int) < (all.length : Int)) = true := by simp only [decide_eq_true_eq]; omega
              obtain ⟨ad2, rfl, had2, ux, uy, uz⟩ := GG3.out i hli
              have hbd := HD.out.below W3.heap.size
              have hi0 : (0 : Int) ≤ (i : Int) := by omega
              have hi1 : (i : Int) < (all.length : Int) := by omega
              have HAS : Hid (((List.range (i + 1)).any fun j => lkEq all x y d j) = (((List.range i).any fun j => lkEq all x y d j) || lkEq all x y d i)) := by unfold Hid; rw [List.range_succ, List.any_append]; simp
              generalize ((List.range i).any fun j => lkEq all x y d j) = r at *
              cases r
              · have hbw := HB1.out.trans (HB.out.mono HB1.out.size)
                have hb12 := HB.out.trans (hbd.mono HB.out.size)
                have wx := (hbd.cell (p := ad.add (k * 3)) (by rw [addBlock]; have := hbw.size; omega)).trans hx'
                have wy := (hbd.cell (p := ⟨(ad.add (k * 3)).block, (ad.add (k * 3)).off + 1, none⟩) (by show (ad.add (k * 3)).block < _; rw [addBlock]; have := hbw.size; omega)).trans hy'
                have wz := (hbd.cell (p := ⟨(ad.add (k * 3)).block, (ad.add (k * 3)).off + 2, none⟩) (by show (ad.add (k * 3)).block < _; rw [addBlock]; have := hbw.size; omega)).trans hz'
                have vx := (hb12.cell (p := ad2.add (i * 3)) (by rw [addBlock]; omega)).trans ux
                have vy := (hb12.cell (p := ⟨(ad2.add (i * 3)).block, (ad2.add (i * 3)).off + 1, none⟩) (by show (ad2.add (i * 3)).block < _; rw [addBlock]; omega)).trans uy
                have vz := (hb12.cell (p := ⟨(ad2.add (i * 3)).block, (ad2.add (i * 3)).off + 2, none⟩) (by show (ad2.add (i * 3)).block < _; rw [addBlock]; omega)).trans uz
                have HE : Hid (lkEq all x y d i = (lx all i == x && (ly all i == y && ld all i == d))) := rfl
                rw [HE.out] at HAS
                clear hx' hy' hz' ux uy uz hbw hb12 HE
                generalize lx all i = p1 at *
                generalize ly all i = p2 at *
                generalize ld all i = p3 at *
                obtain ⟨r2, HR2⟩ : ∃ r2, Hid ((p1 == x && (p2 == y && p3 == d)) = r2) := ⟨_, rfl⟩
                rw [HR2.out] at HAS
                by_cases e1 : p1 = x
                · subst e1
                  by_cases e2 : p2 = y
                  · subst e2
                    by_cases e3 : p3 = d
                    · subst e3
                      have HA2 : Hid (((List.range (i + 1)).any fun j => lkEq all p1 p2 p3 j) = true) := by unfold Hid; rw [HAS.out, ← HR2.out]; simp
                      go_wp2_with fail
                      go_quiet (fail)
                      go_wp2_with fail
                      go_roundw
                      case rel => exact ⟨i + 1, by omega, by go_num, by rw [HA2.out], HD.out.trans ⟨_, rfl⟩⟩
                      case measure => simp [intOf]; omega
                    · have f3 : (p3 == d) = false := by rw [beq_eq_false_iff_ne]; exact e3
                      have HA2 : Hid (((List.range (i + 1)).any fun j => lkEq all p1 p2 d j) = false) := by unfold Hid; rw [HAS.out, ← HR2.out]; simp [e3]
                      clear HAS HR2
                      go_wp2_with fail
                      go_quiet (fail)
                      go_wp2_with fail
                      go_roundw
                      case rel => exact ⟨i + 1, by omega, by go_num, by rw [HA2.out], HD.out.trans ⟨_, rfl⟩⟩
                      case measure => simp [intOf]; omega
                  · have f2 : (p2 == y) = false := by rw [beq_eq_false_iff_ne]; exact e2
                    have HA2 : Hid (((List.range (i + 1)).any fun j => lkEq all p1 y d j) = false) := by unfold Hid; rw [HAS.out, ← HR2.out]; simp [e2]
                    clear HAS HR2
                    go_wp2_with fail
                    go_quiet (fail)
                    go_wp2_with fail
                    go_roundw
                    case rel => exact ⟨i + 1, by omega, by go_num, by rw [HA2.out], HD.out.trans ⟨_, rfl⟩⟩
                    case measure => simp [intOf]; omega
                · have f1 : (p1 == x) = false := by rw [beq_eq_false_iff_ne]; exact e1
                  have HA2 : Hid (((List.range (i + 1)).any fun j => lkEq all x y d j) = false) := by unfold Hid; rw [HAS.out, ← HR2.out]; simp [e1]
                  clear HAS HR2
                  go_wp2_with fail
                  go_quiet (fail)
                  go_wp2_with fail
                  go_roundw
                  case rel => exact ⟨i + 1, by omega, by go_num, by rw [HA2.out], HD.out.trans ⟨_, rfl⟩⟩
                  case measure => simp [intOf]; omega
              · have HA2 : Hid (((List.range (i + 1)).any fun j => lkEq all x y d j) = true) := HAS.out
                clear hx' hy' hz' ux uy uz
                go_wp2_with fail
                go_quiet (fail)
                go_wp2_with fail
                go_roundw
                case rel => exact ⟨i + 1, by omega, by go_num, by rw [HA2.out], HD.out.trans ⟨_, rfl⟩⟩
                case measure => simp [intOf]; omega
            · have hti : decide ((i : Int) < (all.length : Int)) = false := by simp only [decide_eq_false_iff_not]; omega
              have hbd := HD.out.below W3.heap.size
              have hbw := HB1.out.trans (HB.out.mono HB1.out.size)
              have wx := (hbd.cell (p := ad.add (k * 3)) (by rw [addBlock]; have := hbw.size; omega)).trans hx'
              have wy := (hbd.cell (p := ⟨(ad.add (k * 3)).block, (ad.add (k * 3)).off + 1, none⟩) (by show (ad.add (k * 3)).block < _; rw [addBlock]; have := hbw.size; omega)).trans hy'
              have wz := (hbd.cell (p := ⟨(ad.add (k * 3)).block, (ad.add (k * 3)).off + 2, none⟩) (by show (ad.add (k * 3)).block < _; rw [addBlock]; have := hbw.size; omega)).trans hz'
              have HB4 := Lib.hid (HB.out.trans (hbd.mono HB.out.size))
              have HO4 := Lib.hid (HO.out.below hbd)
              have HMEM : Hid (((List.range i).any fun j => lkEq all x y d j) = true ↔ (x, y, d) ∈ all) := by
                unfold Hid
                rw [List.any_eq_true]
                constructor
                · rintro ⟨j, hj, hp⟩
                  have hj' : j < all.length := by have := List.mem_range.1 hj; omega
                  rw [← (lkEq_iff all x y d j hj').1 hp]; exact List.getElem_mem _
                · intro hm
                  obtain ⟨j, hj, e⟩ := List.getElem_of_mem hm
                  exact ⟨j, by simp; omega, (lkEq_iff all x y d j hj).2 e⟩
              generalize ((List.range i).any fun j => lkEq all x y d j) = r at *
              clear hx' hy' hz' hbd hbw
              cases r
              · have HF : Hid (treeB a b ls = false) := treeB_out hlt (by rw [HALL.out, HLK.out]; exact fun h => by have := HMEM.out.2 h; simp at this)
                go_wp2_with fail
                go_ret
                exact ⟨ret_bool HF.out.symm, HB1.out.trans (HB4.out.mono HB1.out.size)⟩
              · have hmem := HMEM.out.1 rfl
                have hin := (tree_facts a b hg).1 (x, y, d) (by rw [HALL.out]; exact hmem)
                rw [HN.out] at hin
                obtain ⟨pa, pb, ha, hb', i1, i2, i3, i4, i5, i6⟩ := lk_ends hin
                rw [i4] at HSP
                have HA := Lib.hid ha
                have HBB := Lib.hid hb'
                have HST : Hid (∀ f : Bool, (decide (∀ j, (h : j < ls.length) → k ≤ j → ls[j] ∈ all) && f) = (decide (∀ j, (h : j < ls.length) → k + 1 ≤ j → ls[j] ∈ all) && f)) := by
                  intro f
                  congr 1
                  rw [decide_eq_decide]
                  refine ⟨fun h j h1 h2 => h j h1 (by omega), fun h j h1 h2 => ?_⟩
                  by_cases e : j = k
                  · subst e; rw [HLK.out]; exact hmem
                  · exact h j h1 (by omega)
                clear ha hb' i4 hmem hin HMEM
                go_wp2_with fail
                refine (l23Ends_any _ _ _ _ _ (by omega) (by omega) (by omega) (by omega) (by omega) (by omega)).mono ?_
                rintro e w5 ⟨rfl, hb5⟩
                rw [HA.out, HBB.out]
                have HB5 := Lib.hid (HB4.out.trans (hb5.mono HB4.out.size))
                have HO5 := Lib.hid (HO4.out.below hb5)
                clear hb5 wx wy wz
                go_wp2_with fail
                refine (l23Join_any gg cg n _ pa pb gs _ HO5.out HGL.out (by omega) (by omega) (by omega)).mono ?_
                rintro e w6 ⟨rfl, hO6, hg6⟩
                have HO6 := Lib.hid hO6
                have HB6 := Lib.hid (HB5.out.grown hg6 HB5.out.size (fun k hk => by obtain rfl := Option.some.inj hk; exact hgb))
                clear hO6 hg6
                by_cases hj : gi gs pa = gi gs pb
                · rw [show decide (gi gs pa ≠ gi gs pb) = false by simp [hj]]
                  have HF : Hid (treeB a b ls = false) := by unfold Hid; rw [HT.out, HSP.out, if_pos hj, Bool.and_false]
                  go_wp2_with fail
                  go_ret
                  exact ⟨ret_bool HF.out.symm, HB1.out.trans (HB6.out.mono HB1.out.size)⟩
                · rw [show decide (gi gs pa ≠ gi gs pb) = true by simp [hj]]
                  have HF : Hid (treeB a b ls = (decide (∀ j, (h : j < ls.length) → k + 1 ≤ j → ls[j] ∈ all) && okAll (joinF gs (pa, pb)) (es.drop (k + 1)))) := by unfold Hid; rw [HT.out, HST.out, HSP.out, if_neg hj]
                  have HJL : Hid ((joinF gs (pa, pb)).length = n) := by unfold Hid joinF; rw [List.length_map]; exact HGL.out
                  clear hj
                  go_wp2_with fail
                  go_roundw
                  case rel => exact ⟨k + 1, _, by omega, by go_num, HO6, HB6, HJL, HF⟩
                  case measure => simp [intOf]; omega
        · have ht : decide ((k : Int) < (ls.length : Int)) = false := by simp only [decide_eq_false_iff_not]; omega
          have HF : Hid (treeB a b ls = true) := by
            unfold Hid
            rw [HT.out, List.drop_of_length_le (by have := HEL.out; omega), okAll, Bool.and_true, decide_eq_true_iff]
            intro j h1 h2; omega
          go_wp2_with fail
          go_ret
          exact ⟨ret_bool HF.out.symm, HB1.out.trans (HB.out.mono HB1.out.size)⟩
    · rw [treeB_len hlen]
      have t1 : ((ls.length : Int) != (a : Int) * (b : Int) - 1) = true := by rw [bne_iff_ne]; exact hlen
      clear hlen hm
      go_enter Try.func129, Try.ntmps129
      go_wp2_with fail
      refine (specGridOk_any _ _ _).mono ?_
      rintro e w1 ⟨rfl, rfl⟩
      rw [hg]
      go_wp2_with fail
      go_ret
      exact ⟨rfl, Below.refl _ _⟩
end Go.Proofs.Ytiecphhenpapoaa
