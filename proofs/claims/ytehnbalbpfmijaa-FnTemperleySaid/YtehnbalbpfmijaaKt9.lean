/- What the claim's walk rests on: parts IsTree, SortL, ArbT, OutP. -/
import Derived.Test.YtehnbalbpfmijaaKt8
import Derived.Test.YtehnbalbpfmijaaKt2
namespace Go.Proofs.Ytehnbalbpfmijaa
open Go.RowKit
set_option linter.unusedVariables false

/-! ### The plain law -/
def treeB (w h : Int) (ls : List Lk) : Bool := gridB w h && (decide ((ls.length : Int) = w * h - 1) && ((ls.all fun l => (linksZ w h).contains l) && okAll (List.range (w.toNat * h.toNat)) (ls.map (lkN w.toNat))))
theorem treeB_no {w h : Int} {ls : List Lk} (hx : gridB w h = false) : treeB w h ls = false := by simp [treeB, hx]
theorem treeB_len {w h : Int} {ls : List Lk} (hx : ¬ (ls.length : Int) = w * h - 1) : treeB w h ls = false := by simp [treeB, hx]
theorem lkEq_iff (ls : List Lk) (x y : Int) (d : Bool) (i : Nat) (hi : i < ls.length) : lkEq ls x y d i = true ↔ ls[i] = (x, y, d) := by
  rw [lk_at _ _ hi]; simp [lkEq]
theorem lkEq_none (ls : List Lk) (x y : Int) (d : Bool) : fstZ (lkEq ls x y d) ls.length 0 < 0 ↔ (x, y, d) ∉ ls := by
  rcases fstZ_spec (lkEq ls x y d) ls.length 0 with ⟨h1, h2⟩ | ⟨j, h1, _, h3, h4, _⟩
  · rw [h1]
    refine ⟨fun _ hm => ?_, fun _ => by omega⟩
    obtain ⟨i, hi, e⟩ := List.getElem_of_mem hm
    have := h2 i (by omega) (by omega)
    rw [(lkEq_iff ls x y d i hi).2 e] at this; simp at this
  · rw [h1]
    refine ⟨fun h => by omega, fun h => absurd ?_ h⟩
    rw [← (lkEq_iff ls x y d j (by omega)).1 h4]; exact List.getElem_mem _
/-- Each link is there once. -/
def Once (ls : List Lk) (k : Nat) : Prop := ∀ j, (h : j < ls.length) → j < k → fstZ (lkEq ls (lx ls j) (ly ls j) (ld ls j)) ls.length 0 = (j : Int)
theorem once_ne {ls : List Lk} {i j : Nat} (hj : j < ls.length) (hij : i < j) (h : ls[i]'(by omega) = ls[j]) : fstZ (lkEq ls (lx ls j) (ly ls j) (ld ls j)) ls.length 0 ≠ (j : Int) := by
  intro e
  rcases fstZ_spec (lkEq ls (lx ls j) (ly ls j) (ld ls j)) ls.length 0 with ⟨h1, _⟩ | ⟨j', h1, _, _, _, h5⟩
  · omega
  · have : j' = j := by omega
    subst this
    have := h5 i (by omega) hij
    rw [(lkEq_iff ls _ _ _ i (by omega)).2 (by rw [h, lk_at _ _ hj])] at this
    simp at this
theorem ne_once {ls : List Lk} {j : Nat} (hj : j < ls.length) (h : fstZ (lkEq ls (lx ls j) (ly ls j) (ld ls j)) ls.length 0 ≠ (j : Int)) : ∃ i, ∃ hi : i < j, ls[i]'(by omega) = ls[j] := by
  have hp : lkEq ls (lx ls j) (ly ls j) (ld ls j) j = true := (lkEq_iff ls _ _ _ j hj).2 (lk_at _ _ hj)
  rcases fstZ_spec (lkEq ls (lx ls j) (ly ls j) (ld ls j)) ls.length 0 with ⟨_, h2⟩ | ⟨i, h1, _, h3, h4, h5⟩
  · have := h2 j (by omega) (by omega); rw [hp] at this; simp at this
  · rcases Nat.lt_trichotomy i j with c | c | c
    · exact ⟨i, c, by rw [(lkEq_iff ls _ _ _ i (by omega)).1 h4, ← lk_at _ _ hj]⟩
    · subst c; exact absurd h1 h
    · have := h5 j (by omega) c; rw [hp] at this; simp at this
/-- All valid: the ends of the links are posts. -/
theorem ends_lt {a b : Nat} (hg : gridB a b = true) {ls : List Lk} (h : ∀ l ∈ ls, l ∈ linksZ a b) : ∀ e ∈ ls.map (lkN a), e.1 < a * b ∧ e.2 < a * b := by
  intro e he
  obtain ⟨⟨x, y, d⟩, hm, rfl⟩ := List.mem_map.1 he
  obtain ⟨p, q, _, _, h3, h4, _, h5, _⟩ := lk_ends ((tree_facts a b hg).1 _ (h _ hm))
  rw [h5]; exact ⟨h3, h4⟩
/-- Two alike: no tree. -/
theorem treeB_twice {a b : Nat} {ls : List Lk} {i j : Nat} (hj : j < ls.length) (hij : i < j) (h : ls[i]'(by omega) = ls[j]) : treeB a b ls = false := by
  cases ht : treeB a b ls
  · rfl
  · unfold treeB at ht
    simp only [Bool.and_eq_true, List.all_eq_true] at ht
    obtain ⟨hg, _, hin, hok⟩ := ht
    have hin' : ∀ l ∈ ls, l ∈ linksZ a b := fun l hl => by simpa using hin l hl
    have hnd := (ok_pair (ls.map (lkN a)) (List.range (a * b)) (a * b) (by simp) (ends_lt hg hin') (by simpa using hok)).1
    refine absurd ?_ (List.pairwise_iff_getElem.1 hnd i j (by rw [List.length_map]; omega) (by rw [List.length_map]; omega) hij)
    rw [List.getElem_map, List.getElem_map, h]
theorem treeB_out {a b : Nat} {ls : List Lk} {j : Nat} (hj : j < ls.length) (h : ls[j] ∉ linksZ a b) : treeB a b ls = false := by
  cases ht : treeB a b ls
  · rfl
  · unfold treeB at ht
    simp only [Bool.and_eq_true, List.all_eq_true] at ht
    exact absurd (by simpa using ht.2.2.1 _ (List.getElem_mem hj)) h
/-- The answer at the end. -/
theorem treeB_end {a b : Nat} {ls : List Lk} {zs : List Int} (hg : gridB a b = true) (hl : (ls.length : Int) = (a : Int) * (b : Int) - 1) (hin : ∀ j, (h : j < ls.length) → ls[j] ∈ linksZ a b)
    (hz : zs.length = a * b) (hlow : ∀ i, i < a * b → -1 ≤ el zs i) (hc : ∀ i, i < a * b → (0 ≤ el zs i ↔ Con (ls.map (lkN a)) 0 i)) : decide (fstZ (fun i => el zs i == -1) zs.length 0 < 0) = treeB a b ls := by
  have hin' : ∀ l ∈ ls, l ∈ linksZ a b := fun l hl => by obtain ⟨j, hj, rfl⟩ := List.getElem_of_mem hl; exact hin j hj
  have hb := (gridB_iff _ _).1 hg
  have hp : 0 < a * b := Nat.mul_pos (by omega) (by omega)
  have hll : ls.length = a * b - 1 := by have : (a : Int) * (b : Int) = ((a * b : Nat) : Int) := by simp
                                         omega
  have ht := tree_iff (n := a * b) (ls.map (lkN a)) hp (by rw [List.length_map]; exact hll) (ends_lt hg hin')
  have e0 : treeB a b ls = okAll (List.range (a * b)) (ls.map (lkN a)) := by
    have : (ls.all fun l => (linksZ a b).contains l) = true := by rw [List.all_eq_true]; intro l h9; simpa using hin' l h9
    unfold treeB
    rw [hg, this, decide_eq_true hl]
    simp
  rw [e0, Bool.eq_iff_iff, decide_eq_true_iff, ht]
  rcases fstZ_spec (fun i => el zs i == -1) zs.length 0 with ⟨h1, h2⟩ | ⟨j, h1, _, h3, h4, _⟩
  · rw [h1]
    refine ⟨fun _ i hi => (hc i hi).1 ?_, fun _ => by omega⟩
    have := h2 i (by omega) (by omega)
    have hne : el zs i ≠ -1 := by simpa using this
    have := hlow i hi
    omega
  · rw [h1]
    refine ⟨fun h => by omega, fun h => ?_⟩
    have := (hc j (by omega)).2 (h j (by omega))
    have : el zs j = -1 := by simpa using h4
    omega
/-- One link after the other. -/
theorem ok_drop {g : List Nat} {es : List (Nat × Nat)} {k : Nat} (hk : k < es.length) : okAll g (es.drop k) = if gi g es[k].1 = gi g es[k].2 then false else okAll (joinF g es[k]) (es.drop (k + 1)) := by
  rw [List.drop_eq_getElem_cons hk, okAll]

/-! ### The program -/
set_option maxRecDepth 100000 in
set_option maxHeartbeats 8000000 in
theorem IsTree_any (p q : Int) (u : Value) (ls : List Lk) (B : Nat) (w : World) (hu : RdF elLink w B u ls) (hB : B ≤ w.heap.size) :
    Calls Try.prog 99 #[.int .i64 p, .int .i64 q, u] w fun e w' => e = .returned (.bool (treeB p q ls)) ∧ Below w.heap.size w w' := by
  have HU := Lib.hid hu
  obtain ⟨A, c, rfl, g1, g2, G3⟩ := RdT.of (E := elLink) rfl (fun _ => rfl) hu
  unfold maxLen at g2
  clear hu
  cases hg : gridB p q
  · rw [treeB_no hg]
    go_enter Try.func99, Try.ntmps99
    go_wp2_with fail
    refine (GridOk_any _ _ _).mono ?_
    rintro e w1 ⟨rfl, rfl⟩
    rw [hg]
    go_wp2_with fail
    go_ret
    exact ⟨rfl, Below.refl _ _⟩
  · have hb := (gridB_iff _ _).1 hg
    obtain ⟨a, rfl⟩ := Int.eq_ofNat_of_zero_le (show 0 ≤ p by omega)
    obtain ⟨b, rfl⟩ := Int.eq_ofNat_of_zero_le (show 0 ≤ q by omega)
    have hab16 : a * b ≤ 16 := Nat.mul_le_mul (show a ≤ 4 by omega) (show b ≤ 4 by omega)
    have hab1 : 0 < a * b := Nat.mul_pos (by omega) (by omega)
    have hm : (a : Int) * (b : Int) = ((a * b : Nat) : Int) := by simp
    have m1 : 0 < (a : Int) * (b : Int) := by omega
    have m2 : (a : Int) * (b : Int) ≤ 16 := by omega
    by_cases hlen : (ls.length : Int) = (a : Int) * (b : Int) - 1
    · have t1 : ((ls.length : Int) != (a : Int) * (b : Int) - 1) = false := by simp [hlen]
      have HLEN := Lib.hid hlen
      obtain ⟨all, HALL⟩ : ∃ x, Hid (linksZ (a : Int) b = x) := ⟨_, rfl⟩
      clear hlen hm
      go_enter Try.func99, Try.ntmps99
      go_wp2_with fail
      refine (GridOk_any _ _ _).mono ?_
      rintro e w1 ⟨rfl, rfl⟩
      rw [hg]
      go_wp2_with fail
      refine (LinksOf_any _ _ _).mono ?_
      rintro e w1 ⟨v1, rfl, ho1, hb1⟩
      rw [HALL.out] at ho1
      have HO1 := Lib.hid ho1
      have HB1 := Lib.hid hb1
      clear ho1 hb1
      go_wp2_with fail
      go_loopw [28] (fun s wr => ∃ k : Nat, k ≤ ls.length ∧ s = .int .i64 k ∧ Hid (Below w1.heap.size w1 wr) ∧ Hid (∀ j, (h : j < ls.length) → j < k → ls[j] ∈ all) ∧ Hid (Once ls k)) (fun s _ => ls.length - (intOf s).toNat)
      case atStart => exact ⟨0, Nat.zero_le _, rfl, Below.refl _ _, fun j _ h => by omega, fun j _ h => by omega⟩
      case round =>
        obtain ⟨k, hk, rfl, HB, HIN, HON⟩ := hrel
        by_cases hlt : k < ls.length
        · have ht : decide ((k : Int) < (ls.length : Int)) = true := by simp only [decide_eq_true_eq]; omega
          obtain ⟨ad, rfl, had, hx, hy, hz⟩ := G3.out k hlt
          have hbw := HB1.out.trans (HB.out.mono HB1.out.size)
          have hx' := (hbw.cell (p := ad.add (k * 3)) (by rw [addBlock]; omega)).trans hx
          have hy' := (hbw.cell (p := ⟨(ad.add (k * 3)).block, (ad.add (k * 3)).off + 1, none⟩) (by show (ad.add (k * 3)).block < _; rw [addBlock]; omega)).trans hy
          have hz' := (hbw.cell (p := ⟨(ad.add (k * 3)).block, (ad.add (k * 3)).off + 2, none⟩) (by show (ad.add (k * 3)).block < _; rw [addBlock]; omega)).trans hz
          have hk0 : (0 : Int) ≤ (k : Int) := by omega
          have hk1 : (k : Int) < (ls.length : Int) := by omega
          have hlk := lk_at ls k hlt
          have HMEM : Hid (fstZ (lkEq all (lx ls k) (ly ls k) (ld ls k)) all.length 0 < 0 ↔ ls[k] ∉ all) := by unfold Hid; rw [hlk]; exact lkEq_none _ _ _ _
          have HOUT : Hid (ls[k] ∉ all → treeB a b ls = false) := fun h => treeB_out hlt (by rw [HALL.out]; exact h)
          have HTW : Hid (fstZ (lkEq ls (lx ls k) (ly ls k) (ld ls k)) ls.length 0 ≠ (k : Int) → treeB a b ls = false) := fun h => by
            obtain ⟨i, hi, e⟩ := ne_once hlt h
            exact treeB_twice hlt hi e
          have HIN2 : Hid (ls[k] ∈ all → ∀ j, (h : j < ls.length) → j < k + 1 → ls[j] ∈ all) := fun h j hj hjk => by
            by_cases e : j = k
            · subst e; exact h
            · exact HIN.out j hj (by omega)
          have HON2 : Hid (fstZ (lkEq ls (lx ls k) (ly ls k) (ld ls k)) ls.length 0 = (k : Int) → Once ls (k + 1)) := fun h j hj hjk => by
            by_cases e : j = k
            · subst e; exact h
            · exact HON.out j hj (by omega)
          have HAL := Lib.hid (hbw.trans (((Below.refl wr.heap.size wr).alloc (Nat.le_refl _) (.cells #[.int .i64 (lx ls k), .int .i64 (ly ls k), .bool (ld ls k)] 68)).mono hbw.size))
          have HAL2 := Lib.hid (HB.out.trans (((Below.refl wr.heap.size wr).alloc (Nat.le_refl _) (.cells #[.int .i64 (lx ls k), .int .i64 (ly ls k), .bool (ld ls k)] 68)).mono HB.out.size))
          have hblk := heap_alloc_new wr (.cells #[.int .i64 (lx ls k), .int .i64 (ly ls k), .bool (ld ls k)] 68)
          have HBLK := Lib.hid hblk
          clear hx hy hz hbw hlk HIN HON hblk
          generalize lx ls k = x at *
          generalize ly ls k = y at *
          generalize ld ls k = d at *
          go_wp2_with fail
          refine (linkIndex_any _ all _ _ _ _ _ ((HO1.out.rd okLink).below HAL2.out) HAL2.out.size).mono ?_
          rintro e w3 ⟨rfl, hb3⟩
          have hbk := (hb3.block wr.heap.size (by simp)).trans HBLK.out
          have HB3 := Lib.hid (HAL.out.trans (hb3.mono HAL.out.size))
          have HB3' := Lib.hid (HAL2.out.trans (hb3.mono HAL2.out.size))
          have b0 : w3.cell? ⟨wr.heap.size, 0, none⟩ = some (.int .i64 x) := by rw [blk_cell hbk]; rfl
          have b1 : w3.cell? ⟨wr.heap.size, 1, none⟩ = some (.int .i64 y) := by rw [blk_cell hbk]; rfl
          have b2 : w3.cell? ⟨wr.heap.size, 2, none⟩ = some (.bool d) := by rw [blk_cell hbk]; rfl
          clear hb3 hbk HAL HAL2 HBLK
          generalize fstZ (lkEq all x y d) all.length 0 = z1 at *
          by_cases hz1 : z1 < 0
          · have HF := Lib.hid (HOUT.out (HMEM.out.1 hz1))
            clear HOUT HMEM HTW HIN2 HON2
            go_wp2_with fail
            go_ret
            exact ⟨ret_bool HF.out.symm, HB3.out⟩
          · have hmem : ls[k] ∈ all := Decidable.byContradiction fun h => hz1 (HMEM.out.2 h)
            have HIN3 := Lib.hid (HIN2.out hmem)
            clear HOUT HMEM HIN2 hmem
            go_wp2_with fail
            refine (linkIndex_any _ ls _ _ _ _ _ (HU.out.below (HB3.out.mono hB)) (Nat.le_trans hB HB3.out.size)).mono ?_
            rintro e w4 ⟨rfl, hb4⟩
            have HB4 := Lib.hid (HB3.out.trans (hb4.mono HB3.out.size))
            have HB4' := Lib.hid (HB3'.out.trans (hb4.mono HB3'.out.size))
            clear hb4 b0 b1 b2
            generalize fstZ (lkEq ls x y d) ls.length 0 = z2 at *
            by_cases hz2 : z2 = (k : Int)
            · have HON3 := Lib.hid (HON2.out hz2)
              subst hz2
              have hnn : ((k : Int) != (k : Int)) = false := by simp
              clear HTW HON2
              go_wp2_with fail
              go_roundw
              case rel => exact ⟨k + 1, by omega, by go_num, HB4', HIN3, HON3⟩
              case measure => simp [intOf]; omega
            · have HF := Lib.hid (HTW.out hz2)
              have hnn : (z2 != (k : Int)) = true := by rw [bne_iff_ne]; exact hz2
              clear HTW HON2
              go_wp2_with fail
              go_ret
              exact ⟨ret_bool HF.out.symm, HB4.out⟩
        · have ht : decide ((k : Int) < (ls.length : Int)) = false := by simp only [decide_eq_false_iff_not]; omega
          have HIN2 : Hid (∀ j, (h : j < ls.length) → ls[j] ∈ linksZ a b) := fun j hj => by rw [HALL.out]; exact HIN.out j hj (by omega)
          have hbw := Lib.hid (HB1.out.trans (HB.out.mono HB1.out.size))
          go_wp2_with fail
          refine (rooted_any a b (a * b) _ ls _ _ (HU.out.below (hbw.out.mono hB)) (Nat.le_trans hB hbw.out.size) (by omega) (by omega) rfl (fun l hl => (tree_facts a b hg).1 l (by obtain ⟨j, hj, rfl⟩ := List.getElem_of_mem hl; exact HIN2.out j hj))).mono ?_
          rintro e w3 ⟨v3, zs, rfl, hr3, hz1, hz2, hz3, hb3, _⟩
          have HE := Lib.hid (treeB_end hg HLEN.out HIN2.out hz1 hz2 hz3)
          have HR3 := Lib.hid hr3
          have HB3 := Lib.hid (hbw.out.trans (hb3.mono hbw.out.size))
          clear hr3 hz1 hz2 hz3 hb3
          go_wp2_with fail
          refine (indexOf_any _ zs _ _ _ HR3.out).mono ?_
          rintro e w4 ⟨rfl, rfl⟩
          generalize fstZ (fun i => el zs i == -1) zs.length 0 = z at *
          go_wp2_with fail
          go_ret
          exact ⟨ret_bool HE.out, HB3.out⟩
    · rw [treeB_len hlen]
      have t1 : ((ls.length : Int) != (a : Int) * (b : Int) - 1) = true := by rw [bne_iff_ne]; exact hlen
      clear hlen hm
      go_enter Try.func99, Try.ntmps99
      go_wp2_with fail
      refine (GridOk_any _ _ _).mono ?_
      rintro e w1 ⟨rfl, rfl⟩
      rw [hg]
      go_wp2_with fail
      go_ret
      exact ⟨rfl, Below.refl _ _⟩

/-! ### The reference -/
set_option maxRecDepth 100000 in
set_option maxHeartbeats 8000000 in
theorem specIsTree_any (p q : Int) (u : Value) (ls : List Lk) (B : Nat) (w : World) (hu : RdF elLink w B u ls) (hB : B ≤ w.heap.size) :
    Calls Try.prog 50 #[.int .i64 p, .int .i64 q, u] w fun e w' => e = .returned (.bool (treeB p q ls)) ∧ Below w.heap.size w w' := by
  have HU := Lib.hid hu
  obtain ⟨A, c, rfl, g1, g2, G3⟩ := RdT.of (E := elLink) rfl (fun _ => rfl) hu
  unfold maxLen at g2
  clear hu
  cases hg : gridB p q
  · rw [treeB_no hg]
    go_enter Try.func50, Try.ntmps50
    go_wp2_with fail
    refine (specGridOk_any _ _ _).mono ?_
    rintro e w1 ⟨rfl, rfl⟩
    rw [hg]
    go_wp2_with fail
    go_ret
    exact ⟨rfl, Below.refl _ _⟩
  · have hb := (gridB_iff _ _).1 hg
    obtain ⟨a, rfl⟩ := Int.eq_ofNat_of_zero_le (show 0 ≤ p by omega)
    obtain ⟨b, rfl⟩ := Int.eq_ofNat_of_zero_le (show 0 ≤ q by omega)
    have hab16 : a * b ≤ 16 := Nat.mul_le_mul (show a ≤ 4 by omega) (show b ≤ 4 by omega)
    have hab1 : 0 < a * b := Nat.mul_pos (by omega) (by omega)
    have hm : (a : Int) * (b : Int) = ((a * b : Nat) : Int) := by simp
    have m1 : 0 < (a : Int) * (b : Int) := by omega
    have m2 : (a : Int) * (b : Int) ≤ 16 := by omega
    by_cases hlen : (ls.length : Int) = (a : Int) * (b : Int) - 1
    · have t1 : ((ls.length : Int) != (a : Int) * (b : Int) - 1) = false := by simp [hlen]
      have HLEN := Lib.hid hlen
      have hall := linksZ_len a b
      obtain ⟨all, HALL⟩ : ∃ x, Hid (linksZ (a : Int) b = x) := ⟨_, rfl⟩
      obtain ⟨n, HN⟩ : ∃ x, Hid (a * b = x) := ⟨_, rfl⟩
      rw [HN.out] at hm hab16 hab1
      rw [HALL.out] at hall
      have HM := Lib.hid hm
      obtain ⟨es, HES⟩ : ∃ x, Hid (ls.map (lkN a) = x) := ⟨_, rfl⟩
      have HEL : Hid (es.length = ls.length) := by unfold Hid; rw [← HES.out, List.length_map]
      clear hlen hm
      go_enter Try.func50, Try.ntmps50
      go_wp2_with fail
      refine (specGridOk_any _ _ _).mono ?_
      rintro e w1 ⟨rfl, rfl⟩
      rw [hg]
      go_wp2_with fail
      refine (specLinksOf_any _ _ _).mono ?_
      rintro e w1 ⟨v1, rfl, ho1, hb1⟩
      rw [HALL.out] at ho1
      obtain ⟨A1, c1, hv1, gg1, gg2, GG3⟩ := RdT.of (E := elLink) rfl (fun _ => rfl) (ho1.rd okLink)
      unfold maxLen at gg2
      subst hv1
      have HB1 := Lib.hid hb1
      clear ho1 hb1
      go_wp2_with fail
      rw [HM.out]
      refine (l23Groups_any n _ (by omega)).mono ?_
      rintro e w2 ⟨v2, rfl, ho2, hb2⟩
      obtain ⟨gg, cg, hv2, hgb, hgl⟩ := World.ownsRow.form ho2 (by rw [natI_length]; simp; exact hab1)
      rw [natI_length, List.length_range] at hv2
      subst hv2
      have HB2 := Lib.hid (HB1.out.trans (hb2.mono HB1.out.size))
      have HB2' := Lib.hid hb2
      have HO2 := Lib.hid ho2
      have HRUN : Hid (treeB a b ls = (decide (∀ j, (h : j < ls.length) → 0 ≤ j → ls[j] ∈ all) && okAll (List.range n) (es.drop 0))) := by
        unfold Hid treeB
        rw [hg, decide_eq_true HLEN.out, Bool.true_and, Bool.true_and, List.drop_zero, Int.toNat_natCast, Int.toNat_natCast, HN.out, HES.out, HALL.out]
        congr 1
        rw [Bool.eq_iff_iff, decide_eq_true_iff, List.all_eq_true]
        refine ⟨fun h j hj _ => by simpa using h _ (List.getElem_mem hj), fun h l hl => ?_⟩
        obtain ⟨j, hj, rfl⟩ := List.getElem_of_mem hl
        simpa using h j hj (Nat.zero_le _)
      clear ho2 hb2
      go_wp2_with fail
      go_loopw [9] (fun s wr => ∃ (k : Nat) (gs : List Nat), k ≤ ls.length ∧ s = .int .i64 k ∧ Hid (OwnI wr w1.heap.size (.slice (some ⟨gg, 0, none⟩) n cg) (natI gs)) ∧ Hid (Below w1.heap.size w1 wr) ∧ Hid (gs.length = n) ∧ Hid (treeB a b ls = (decide (∀ j, (h : j < ls.length) → k ≤ j → ls[j] ∈ all) && okAll gs (es.drop k)))) (fun s _ => ls.length - (intOf s).toNat)
      case atStart => exact ⟨0, _, Nat.zero_le _, rfl, HO2, HB2', by (unfold Hid; simp), HRUN⟩
      case round =>
        obtain ⟨k, gs, hk, rfl, HO, HB, HGL, HT⟩ := hrel
        by_cases hlt : k < ls.length
        · have ht : decide ((k : Int) < (ls.length : Int)) = true := by simp only [decide_eq_true_eq]; omega
          obtain ⟨ad, rfl, had, hx, hy, hz⟩ := G3.out k hlt
          have hbw := HB1.out.trans (HB.out.mono HB1.out.size)
          have hx' := (hbw.cell (p := ad.add (k * 3)) (by rw [addBlock]; omega)).trans hx
          have hy' := (hbw.cell (p := ⟨(ad.add (k * 3)).block, (ad.add (k * 3)).off + 1, none⟩) (by show (ad.add (k * 3)).block < _; rw [addBlock]; omega)).trans hy
          have hz' := (hbw.cell (p := ⟨(ad.add (k * 3)).block, (ad.add (k * 3)).off + 2, none⟩) (by show (ad.add (k * 3)).block < _; rw [addBlock]; omega)).trans hz
          have hk0 : (0 : Int) ≤ (k : Int) := by omega
          have hk1 : (k : Int) < (ls.length : Int) := by omega
          have hlk := lk_at ls k hlt
          have HLK := Lib.hid hlk
          have HSP : Hid (∀ g : List Nat, okAll g (es.drop k) = if gi g (lkN a (lx ls k, ly ls k, ld ls k)).1 = gi g (lkN a (lx ls k, ly ls k, ld ls k)).2 then false else okAll (joinF g (lkN a (lx ls k, ly ls k, ld ls k))) (es.drop (k + 1))) := by
            intro g
            have hke : k < es.length := by have := HEL.out; omega
            have he : es[k] = lkN a (lx ls k, ly ls k, ld ls k) := by
              have h9 : es[k]? = some (lkN a (lx ls k, ly ls k, ld ls k)) := by rw [← HES.out, List.getElem?_map, lk_get _ _ hlt]; rfl
              rw [List.getElem?_eq_getElem hke] at h9
              exact Option.some.inj h9
            rw [ok_drop hke, he]
          clear hx hy hz hbw hlk
          generalize lx ls k = x at *
          generalize ly ls k = y at *
          generalize ld ls k = d at *
          obtain ⟨W3, HW3⟩ : ∃ W, Hid (W = wr) := ⟨_, rfl⟩
          go_wp2_with fail
          go_loopw [10, 11] (fun t s wr2 => ∃ i : Nat, i ≤ all.length ∧ s = .int .i64 i ∧ t = .bool ((List.range i).any fun j => lkEq all x y d j) ∧ Hid (Drawn W3 wr2)) (fun _ s _ => all.length - (intOf s).toNat)
          case atStart => exact ⟨0, Nat.zero_le _, rfl, rfl, by rw [HW3.out]; exact Drawn.refl _⟩
          case round =>
            obtain ⟨i, hi, rfl, rfl, HD⟩ := hrel
            rw [← HW3.out] at hx' hy' hz' HO HB
            by_cases hli : i < all.length
            · have hti : decide ((i : Int) < (all.length : Int)) = true := by simp only [decide_eq_true_eq]; omega
              obtain ⟨ad2, rfl, had2, ux, uy, uz⟩ := GG3.out i hli
              have hbd := HD.out.below W3.heap.size
              have hi0 : (0 : Int) ≤ (i : Int) := by omega
              have hi1 : (i : Int) < (all.length : Int) := by omega
              have HAS : Hid (((List.range (i + 1)).any fun j => lkEq all x y d j) = (((List.range i).any fun j => lkEq all x y d j) || lkEq all x y d i)) := by unfold Hid; rw [List.range_succ, List.any_append]; simp
              generalize ((List.range i).any fun j => lkEq all x y d j) = r at *
              cases r
              · have hbw := HB1.out.trans (HB.out.mono HB1.out.size)
                have hb12 := HB.out.trans (hbd.mono HB.out.size)
                have wx := (hbd.cell (p := ad.add (k * 3)) (by rw [addBlock]; have := hbw.size; omega)).trans hx'
                have wy := (hbd.cell (p := ⟨(ad.add (k * 3)).block, (ad.add (k * 3)).off + 1, none⟩) (by show (ad.add (k * 3)).block < _; rw [addBlock]; have := hbw.size; omega)).trans hy'
                have wz := (hbd.cell (p := ⟨(ad.add (k * 3)).block, (ad.add (k * 3)).off + 2, none⟩) (by show (ad.add (k * 3)).block < _; rw [addBlock]; have := hbw.size; omega)).trans hz'
                have vx := (hb12.cell (p := ad2.add (i * 3)) (by rw [addBlock]; omega)).trans ux
                have vy := (hb12.cell (p := ⟨(ad2.add (i * 3)).block, (ad2.add (i * 3)).off + 1, none⟩) (by show (ad2.add (i * 3)).block < _; rw [addBlock]; omega)).trans uy
                have vz := (hb12.cell (p := ⟨(ad2.add (i * 3)).block, (ad2.add (i * 3)).off + 2, none⟩) (by show (ad2.add (i * 3)).block < _; rw [addBlock]; omega)).trans uz
                have HE : Hid (lkEq all x y d i = (lx all i == x && (ly all i == y && ld all i == d))) := rfl
                rw [HE.out] at HAS
                clear hx' hy' hz' ux uy uz hbw hb12 HE
                generalize lx all i = p1 at *
                generalize ly all i = p2 at *
                generalize ld all i = p3 at *
                obtain ⟨r2, HR2⟩ : ∃ r2, Hid ((p1 == x && (p2 == y && p3 == d)) = r2) := ⟨_, rfl⟩
                rw [HR2.out] at HAS
                by_cases e1 : p1 = x
                · subst e1
                  by_cases e2 : p2 = y
                  · subst e2
                    by_cases e3 : p3 = d
                    · subst e3
                      have HA2 : Hid (((List.range (i + 1)).any fun j => lkEq all p1 p2 p3 j) = true) := by unfold Hid; rw [HAS.out, ← HR2.out]; simp
                      go_wp2_with fail
                      go_quiet (fail)
                      go_wp2_with fail
                      go_roundw
                      case rel => exact ⟨i + 1, by omega, by go_num, by rw [HA2.out], HD.out.trans ⟨_, rfl⟩⟩
                      case measure => simp [intOf]; omega
                    · have f3 : (p3 == d) = false := by rw [beq_eq_false_iff_ne]; exact e3
                      have HA2 : Hid (((List.range (i + 1)).any fun j => lkEq all p1 p2 d j) = false) := by unfold Hid; rw [HAS.out, ← HR2.out]; simp [e3]
                      clear HAS HR2
                      go_wp2_with fail
                      go_quiet (fail)
                      go_wp2_with fail
                      go_roundw
                      case rel => exact ⟨i + 1, by omega, by go_num, by rw [HA2.out], HD.out.trans ⟨_, rfl⟩⟩
                      case measure => simp [intOf]; omega
                  · have f2 : (p2 == y) = false := by rw [beq_eq_false_iff_ne]; exact e2
                    have HA2 : Hid (((List.range (i + 1)).any fun j => lkEq all p1 y d j) = false) := by unfold Hid; rw [HAS.out, ← HR2.out]; simp [e2]
                    clear HAS HR2
                    go_wp2_with fail
                    go_quiet (fail)
                    go_wp2_with fail
                    go_roundw
                    case rel => exact ⟨i + 1, by omega, by go_num, by rw [HA2.out], HD.out.trans ⟨_, rfl⟩⟩
                    case measure => simp [intOf]; omega
                · have f1 : (p1 == x) = false := by rw [beq_eq_false_iff_ne]; exact e1
                  have HA2 : Hid (((List.range (i + 1)).any fun j => lkEq all x y d j) = false) := by unfold Hid; rw [HAS.out, ← HR2.out]; simp [e1]
                  clear HAS HR2
                  go_wp2_with fail
                  go_quiet (fail)
                  go_wp2_with fail
                  go_roundw
                  case rel => exact ⟨i + 1, by omega, by go_num, by rw [HA2.out], HD.out.trans ⟨_, rfl⟩⟩
                  case measure => simp [intOf]; omega
              · have HA2 : Hid (((List.range (i + 1)).any fun j => lkEq all x y d j) = true) := HAS.out
                clear hx' hy' hz' ux uy uz
                go_wp2_with fail
                go_quiet (fail)
                go_wp2_with fail
                go_roundw
                case rel => exact ⟨i + 1, by omega, by go_num, by rw [HA2.out], HD.out.trans ⟨_, rfl⟩⟩
                case measure => simp [intOf]; omega
            · have hti : decide ((i : Int) < (all.length : Int)) = false := by simp only [decide_eq_false_iff_not]; omega
              have hbd := HD.out.below W3.heap.size
              have hbw := HB1.out.trans (HB.out.mono HB1.out.size)
              have wx := (hbd.cell (p := ad.add (k * 3)) (by rw [addBlock]; have := hbw.size; omega)).trans hx'
              have wy := (hbd.cell (p := ⟨(ad.add (k * 3)).block, (ad.add (k * 3)).off + 1, none⟩) (by show (ad.add (k * 3)).block < _; rw [addBlock]; have := hbw.size; omega)).trans hy'
              have wz := (hbd.cell (p := ⟨(ad.add (k * 3)).block, (ad.add (k * 3)).off + 2, none⟩) (by show (ad.add (k * 3)).block < _; rw [addBlock]; have := hbw.size; omega)).trans hz'
              have HB4 := Lib.hid (HB.out.trans (hbd.mono HB.out.size))
              have HO4 := Lib.hid (HO.out.below hbd)
              have HMEM : Hid (((List.range i).any fun j => lkEq all x y d j) = true ↔ (x, y, d) ∈ all) := by
                unfold Hid
                rw [List.any_eq_true]
                constructor
                · rintro ⟨j, hj, hp⟩
                  have hj' : j < all.length := by have := List.mem_range.1 hj; omega
                  rw [← (lkEq_iff all x y d j hj').1 hp]; exact List.getElem_mem _
                · intro hm
                  obtain ⟨j, hj, e⟩ := List.getElem_of_mem hm
                  exact ⟨j, by simp; omega, (lkEq_iff all x y d j hj).2 e⟩
              generalize ((List.range i).any fun j => lkEq all x y d j) = r at *
              clear hx' hy' hz' hbd hbw
              cases r
              · have HF : Hid (treeB a b ls = false) := treeB_out hlt (by rw [HALL.out, HLK.out]; exact fun h => by have := HMEM.out.2 h; simp at this)
                go_wp2_with fail
                go_ret
                exact ⟨ret_bool HF.out.symm, HB1.out.trans (HB4.out.mono HB1.out.size)⟩
              · have hmem := HMEM.out.1 rfl
                have hin := (tree_facts a b hg).1 (x, y, d) (by rw [HALL.out]; exact hmem)
                rw [HN.out] at hin
                obtain ⟨pa, pb, ha, hb', i1, i2, i3, i4, i5, i6⟩ := lk_ends hin
                rw [i4] at HSP
                have HA := Lib.hid ha
                have HBB := Lib.hid hb'
                have HST : Hid (∀ f : Bool, (decide (∀ j, (h : j < ls.length) → k ≤ j → ls[j] ∈ all) && f) = (decide (∀ j, (h : j < ls.length) → k + 1 ≤ j → ls[j] ∈ all) && f)) := by
                  intro f
                  congr 1
                  rw [decide_eq_decide]
                  refine ⟨fun h j h1 h2 => h j h1 (by omega), fun h j h1 h2 => ?_⟩
                  by_cases e : j = k
                  · subst e; rw [HLK.out]; exact hmem
                  · exact h j h1 (by omega)
                clear ha hb' i4 hmem hin HMEM
                go_wp2_with fail
                refine (l23Ends_any _ _ _ _ _ (by omega) (by omega) (by omega) (by omega) (by omega) (by omega)).mono ?_
                rintro e w5 ⟨rfl, hb5⟩
                rw [HA.out, HBB.out]
                have HB5 := Lib.hid (HB4.out.trans (hb5.mono HB4.out.size))
                have HO5 := Lib.hid (HO4.out.below hb5)
                clear hb5 wx wy wz
                go_wp2_with fail
                refine (l23Join_any gg cg n _ pa pb gs _ HO5.out HGL.out (by omega) (by omega) (by omega)).mono ?_
                rintro e w6 ⟨rfl, hO6, hg6⟩
                have HO6 := Lib.hid hO6
                have HB6 := Lib.hid (HB5.out.grown hg6 HB5.out.size (fun k hk => by obtain rfl := Option.some.inj hk; exact hgb))
                clear hO6 hg6
                by_cases hj : gi gs pa = gi gs pb
                · rw [show decide (gi gs pa ≠ gi gs pb) = false by simp [hj]]
                  have HF : Hid (treeB a b ls = false) := by unfold Hid; rw [HT.out, HSP.out, if_pos hj, Bool.and_false]
                  go_wp2_with fail
                  go_ret
                  exact ⟨ret_bool HF.out.symm, HB1.out.trans (HB6.out.mono HB1.out.size)⟩
                · rw [show decide (gi gs pa ≠ gi gs pb) = true by simp [hj]]
                  have HF : Hid (treeB a b ls = (decide (∀ j, (h : j < ls.length) → k + 1 ≤ j → ls[j] ∈ all) && okAll (joinF gs (pa, pb)) (es.drop (k + 1)))) := by unfold Hid; rw [HT.out, HST.out, HSP.out, if_neg hj]
                  have HJL : Hid ((joinF gs (pa, pb)).length = n) := by unfold Hid joinF; rw [List.length_map]; exact HGL.out
                  clear hj
                  go_wp2_with fail
                  go_roundw
                  case rel => exact ⟨k + 1, _, by omega, by go_num, HO6, HB6, HJL, HF⟩
                  case measure => simp [intOf]; omega
        · have ht : decide ((k : Int) < (ls.length : Int)) = false := by simp only [decide_eq_false_iff_not]; omega
          have HF : Hid (treeB a b ls = true) := by
            unfold Hid
            rw [HT.out, List.drop_of_length_le (by have := HEL.out; omega), okAll, Bool.and_true, decide_eq_true_iff]
            intro j h1 h2; omega
          go_wp2_with fail
          go_ret
          exact ⟨ret_bool HF.out.symm, HB1.out.trans (HB.out.mono HB1.out.size)⟩
    · rw [treeB_len hlen]
      have t1 : ((ls.length : Int) != (a : Int) * (b : Int) - 1) = true := by rw [bne_iff_ne]; exact hlen
      clear hlen hm
      go_enter Try.func50, Try.ntmps50
      go_wp2_with fail
      refine (specGridOk_any _ _ _).mono ?_
      rintro e w1 ⟨rfl, rfl⟩
      rw [hg]
      go_wp2_with fail
      go_ret
      exact ⟨rfl, Below.refl _ _⟩
end Go.Proofs.Ytehnbalbpfmijaa

namespace Go.Proofs.Ytehnbalbpfmijaa
open Go.RowKit
set_option linter.unusedVariables false

/-- The number by which dominoes are ordered. -/
def ordL (l : Lk) : Nat := domO l.1.toNat l.2.1.toNat l.2.2
theorem ordL_inj {l m : Lk} (hl : domL l = true) (hm : domL m = true) (h : ordL l = ordL m) : l = m := by
  obtain ⟨x, y, d⟩ := l
  obtain ⟨x', y', d'⟩ := m
  have h1 := (domB_iff _ _ _).1 hl
  have h2 := (domB_iff _ _ _).1 hm
  dsimp only at h1 h2
  have h3 : x ≤ 7 := by have := h1.2; cases d <;> simp at this <;> omega
  have h4 : x' ≤ 7 := by have := h2.2; cases d' <;> simp at this <;> omega
  unfold ordL domO cix at h
  simp only at h
  have e3 : d = d' := by cases d <;> cases d' <;> simp at h ⊢ <;> omega
  subst e3
  have e1 : x = x' := by omega
  have e2 : y = y' := by omega
  rw [e1, e2]
theorem ordL_lt {l : Lk} (hl : domL l = true) : ordL l < 128 := by
  obtain ⟨x, y, d⟩ := l
  have h1 := (domB_iff _ _ _).1 hl
  have h3 : x ≤ 7 ∧ y ≤ 7 := by have := h1.2; cases d <;> simp at this <;> omega
  unfold ordL domO cix
  simp only
  split <;> omega
/-- From the right: how many are not behind o. -/
def downK (ys : List Lk) (o : Nat) : Nat → Nat
  | 0 => 0
  | k + 1 => if o < ordL (dAt ys k) then downK ys o k else k + 1
/-- From the left: the first that is not before d. -/
def upK (ys : List Lk) (d : Lk) : Nat → Nat → Nat
  | 0, i => i
  | f + 1, i => if decide (i < ys.length) && domLt (dAt ys i) d then upK ys d f (i + 1) else i
def insI (d : Lk) (ys : List Lk) : List Lk :=
  let k := downK ys (ordL d) ys.length
  if decide (0 < k) && (dAt ys (k - 1) == d) then ys else ys.take k ++ d :: ys.drop k
def insS (d : Lk) (ys : List Lk) : List Lk :=
  let k := upK ys d ys.length 0
  if decide (k < ys.length) && (dAt ys k == d) then ys else ys.take k ++ [d] ++ ys.drop k
def sortI (ls : List Lk) : Nat → List Lk
  | 0 => []
  | k + 1 => if domL (dAt ls k) then insI (dAt ls k) (sortI ls k) else sortI ls k
def sortS (ls : List Lk) : Nat → List Lk
  | 0 => []
  | k + 1 => if domL (dAt ls k) then insS (dAt ls k) (sortS ls k) else sortS ls k
theorem downK_spec (ys : List Lk) (o : Nat) : ∀ k, downK ys o k ≤ k ∧ (∀ i, downK ys o k ≤ i → i < k → o < ordL (dAt ys i)) ∧ (0 < downK ys o k → ordL (dAt ys (downK ys o k - 1)) ≤ o)
  | 0 => by simp [downK]
  | k + 1 => by
    rw [downK]
    by_cases h : o < ordL (dAt ys k)
    · rw [if_pos h]
      obtain ⟨h1, h2, h3⟩ := downK_spec ys o k
      refine ⟨by omega, fun i g1 g2 => ?_, h3⟩
      by_cases e : i = k
      · subst e; exact h
      · exact h2 i g1 (by omega)
    · rw [if_neg h]
      exact ⟨Nat.le_refl _, fun i g1 g2 => by omega, fun _ => by simpa using h⟩
theorem upK_spec (ys : List Lk) (d : Lk) : ∀ f i, i ≤ upK ys d f i ∧ upK ys d f i ≤ i + f ∧ (∀ j, i ≤ j → j < upK ys d f i → j < ys.length ∧ domLt (dAt ys j) d = true) ∧ (upK ys d f i < i + f → upK ys d f i < ys.length → domLt (dAt ys (upK ys d f i)) d = false)
  | 0, i => by simp [upK]; intro j h1 h2; omega
  | f + 1, i => by
    rw [upK]
    cases hb : (decide (i < ys.length) && domLt (dAt ys i) d)
    · rw [if_neg (by simp)]
      refine ⟨Nat.le_refl _, by omega, fun j h1 h2 => by omega, fun _ h => ?_⟩
      simpa [h] using hb
    · rw [if_pos rfl]
      obtain ⟨h1, h2, h3, h4⟩ := upK_spec ys d f (i + 1)
      simp only [Bool.and_eq_true, decide_eq_true_eq] at hb
      refine ⟨by omega, by omega, fun j g1 g2 => ?_, fun g => h4 (by omega)⟩
      by_cases e : j = i
      · subst e; exact hb
      · exact h3 j (by omega) g2
/-- In order, each one valid. -/
def Sorted (ys : List Lk) : Prop := ys.Pairwise (fun a b => ordL a < ordL b) ∧ ∀ a ∈ ys, domL a = true
theorem dAt_get (ys : List Lk) (j : Nat) (h : j < ys.length) : dAt ys j = ys[j] := by
  have := lk_get ys j h
  rw [List.getElem?_eq_getElem h] at this
  exact (Option.some.inj this).symm
theorem Sorted.at {ys : List Lk} (h : Sorted ys) {i j : Nat} (hij : i < j) (hj : j < ys.length) : ordL (dAt ys i) < ordL (dAt ys j) := by
  rw [dAt_get ys i (by omega), dAt_get ys j hj]
  exact List.pairwise_iff_getElem.1 h.1 i j (by omega) hj hij
theorem Sorted.ok {ys : List Lk} (h : Sorted ys) {i : Nat} (hi : i < ys.length) : domL (dAt ys i) = true := by
  rw [dAt_get ys i hi]; exact h.2 _ (List.getElem_mem hi)
theorem Sorted.short {ys : List Lk} (h : Sorted ys) : ys.length ≤ 128 := by
  have key : ∀ k, k < ys.length → k ≤ ordL (dAt ys k) := by
    intro k
    induction k with
    | zero => intro _; omega
    | succ k ih => intro hk; have := ih (by omega); have := h.at (i := k) (j := k + 1) (by omega) hk; omega
  by_cases h0 : ys.length = 0
  · omega
  · have := key (ys.length - 1) (by omega)
    have := ordL_lt (h.ok (i := ys.length - 1) (by omega))
    omega
theorem ins_same {ys : List Lk} (h : Sorted ys) {d : Lk} (hd : domL d = true) : insI d ys = insS d ys ∧ Sorted (insI d ys) := by
  obtain ⟨d1, d2, d3⟩ := downK_spec ys (ordL d) ys.length
  obtain ⟨_, u2, u3, u4⟩ := upK_spec ys d ys.length 0
  have hlt : ∀ i, i < ys.length → (domLt (dAt ys i) d = true ↔ ordL (dAt ys i) < ordL d) := fun i hi => by
    have := h.ok hi
    unfold domL at this hd
    unfold domLt
    rw [this, hd]
    simp [ordL]
  unfold insI insS
  generalize downK ys (ordL d) ys.length = k at *
  generalize upK ys d ys.length 0 = k' at *
  simp only
  have hk' : k' ≤ ys.length := by omega
  by_cases hin : 0 < k ∧ dAt ys (k - 1) = d
  · have e : k' = k - 1 := by
      have a1 : ¬ (k - 1 < k') := fun g => by
        have := (hlt _ (by omega)).1 (u3 (k - 1) (Nat.zero_le _) g).2
        rw [hin.2] at this; omega
      have a2 : ¬ (k' < k - 1) := fun g => by
        have q := u4 (by omega) (by omega)
        have := h.at g (by omega)
        rw [hin.2] at this
        rw [(hlt _ (by omega)).2 this] at q
        simp at q
      omega
    rw [if_pos (by simp [hin.1, hin.2]), if_pos (by rw [e]; simp [hin.2]; omega)]
    exact ⟨rfl, h⟩
  · have e : k' = k := by
      have a1 : ¬ (k < k') := fun g => by
        have q1 := (hlt _ (by have := (u3 k (Nat.zero_le _) g).1; omega)).1 (u3 k (Nat.zero_le _) g).2
        have q2 := d2 k (Nat.le_refl _) (u3 k (Nat.zero_le _) g).1
        omega
      have a2 : ¬ (k' < k) := fun g => by
        have q := u4 (by omega) (by omega)
        have q1 : ¬ ordL (dAt ys k') < ordL d := fun g2 => by rw [(hlt _ (by omega)).2 g2] at q; simp at q
        have q2 := d3 (by omega)
        have q3 : ordL (dAt ys k') ≤ ordL (dAt ys (k - 1)) := by
          by_cases e2 : k' = k - 1
          · rw [e2]; exact Nat.le_refl _
          · exact Nat.le_of_lt (h.at (by omega) (by omega))
        exact hin ⟨by omega, ordL_inj (h.ok (by omega)) hd (by omega)⟩
      omega
    have hno : ¬ (k < ys.length ∧ dAt ys k = d) := fun g => by
      have := d2 k (Nat.le_refl _) g.1
      rw [g.2] at this; omega
    rw [if_neg (by simpa using hin), e, if_neg (by simpa using hno)]
    refine ⟨by simp, ?_, ?_⟩
    · rw [List.pairwise_append, List.pairwise_cons]
      have hp := h.1
      refine ⟨hp.sublist (List.take_sublist _ _), ⟨fun a ha => ?_, hp.sublist (List.drop_sublist _ _)⟩, fun a ha b hb => ?_⟩
      · obtain ⟨i, hi, rfl⟩ := List.getElem_of_mem ha
        rw [List.getElem_drop, ← dAt_get]
        simp at hi
        exact d2 _ (by omega) (by omega)
      · obtain ⟨i, hi, rfl⟩ := List.getElem_of_mem ha
        simp at hi
        rw [List.getElem_take, ← dAt_get ys i (by omega)]
        have hb1 : ordL (dAt ys i) < ordL d := (hlt _ (by omega)).1 (u3 i (Nat.zero_le _) (by omega)).2
        rcases List.mem_cons.1 hb with rfl | hb
        · exact hb1
        · obtain ⟨j, hj, rfl⟩ := List.getElem_of_mem hb
          simp at hj
          rw [List.getElem_drop, ← dAt_get]
          have := d2 (k + j) (by omega) (by omega)
          omega
    · intro a ha
      rcases List.mem_append.1 ha with ha | ha
      · exact h.2 _ (List.mem_of_mem_take ha)
      · rcases List.mem_cons.1 ha with rfl | ha
        · exact hd
        · exact h.2 _ (List.mem_of_mem_drop ha)
theorem sort_same (ls : List Lk) : ∀ k, sortI ls k = sortS ls k ∧ Sorted (sortI ls k)
  | 0 => ⟨rfl, by simp [sortI, Sorted]⟩
  | k + 1 => by
    obtain ⟨h1, h2⟩ := sort_same ls k
    rw [sortI, sortS]
    by_cases hd : domL (dAt ls k) = true
    · rw [if_pos hd, if_pos hd, ← h1]
      exact ins_same h2 hd
    · rw [if_neg hd, if_neg hd]
      exact ⟨h1, h2⟩
theorem sortI_short (ls : List Lk) (k : Nat) : (sortI ls k).length ≤ 128 := (sort_same ls k).2.short
end Go.Proofs.Ytehnbalbpfmijaa

namespace Go.Proofs.Ytehnbalbpfmijaa
open Go.RowKit
set_option linter.unusedVariables false

def inW (W H : Int) (c : Int × Int) : Prop := (0 ≤ c.1 ∧ c.1 < W) ∧ 0 ≤ c.2 ∧ c.2 < H
/-- The cell of a link's place. -/
def lkC (l : Lk) : Int × Int := if l.2.2 then (2 * l.1, 2 * l.2.1 + 1) else (2 * l.1 + 1, 2 * l.2.1)
def cellP (w k : Nat) : Int × Int := (2 * ((k % w : Nat) : Int), 2 * ((k / w : Nat) : Int))
def cellF (w f : Nat) : Int × Int := (2 * ((f % (w - 1) : Nat) : Int) + 1, 2 * ((f / (w - 1) : Nat) : Int) + 1)
def nodes0 (w h : Nat) : List (Int × Int) := (List.range (w * h - 1)).map fun k => cellP w (k + 1)
def nodes1 (w h : Nat) : List (Int × Int) := (List.range ((w - 1) * (h - 1))).map (cellF w)
def edgesZ (w h : Nat) : List (Int × Int) := (linksZ w h).map lkC
def pbox (w h : Nat) : List (Int × Int) := (List.range (2 * w - 1)).flatMap fun (x : Nat) => (List.range (2 * h - 1)).map fun (y : Nat) => ((x : Int), (y : Int))
def floorB (w h : Nat) : Bool :=
  (nodes0 w h).Nodup && (nodes1 w h).Nodup && (edgesZ w h).Nodup && (edgesZ w h).length == (w * h - 1) + (w - 1) * (h - 1) &&
  ((pbox w h).all fun c => ((nodes0 w h).contains c == (c.1 % 2 == 0 && c.2 % 2 == 0 && c != (0, 0))) && ((nodes1 w h).contains c == (c.1 % 2 == 1 && c.2 % 2 == 1)) && ((edgesZ w h).contains c == ((c.1 + c.2) % 2 == 1))) &&
  ((nodes0 w h).all fun c => (pbox w h).contains c) && ((nodes1 w h).all fun c => (pbox w h).contains c) && ((edgesZ w h).all fun c => (pbox w h).contains c) &&
  ((linksZ w h).all fun l => decide ((lkN w l).1 < w * h) && decide ((lkN w l).2 < w * h) &&
    ((cellP w (lkN w l).1, cellP w (lkN w l).2) == (let d : Int × Int := if l.2.2 then (0, 1) else (1, 0); let c := lkC l; (pad c (neg d), pad c d))))
theorem floor_tab : ((List.range 5).all fun w => (List.range 5).all fun h => w == 0 || h == 0 || floorB w h) = true := by decide +kernel
theorem pbox_iff (w h : Nat) (c : Int × Int) : c ∈ pbox w h ↔ inW (2 * w - 1) (2 * h - 1) c := by
  obtain ⟨x, y⟩ := c
  unfold pbox inW
  simp only [List.mem_flatMap, List.mem_range, List.mem_map, Prod.mk.injEq]
  constructor
  · rintro ⟨a, ha, b, hb, rfl, rfl⟩; omega
  · rintro ⟨⟨h1, h2⟩, h3, h4⟩
    exact ⟨x.toNat, by omega, y.toNat, by omega, by omega, by omega⟩
structure FloorOk (w h : Nat) : Prop where
  n0 : (nodes0 w h).Nodup
  n1 : (nodes1 w h).Nodup
  ne : (edgesZ w h).Nodup
  le : (edgesZ w h).length = (w * h - 1) + (w - 1) * (h - 1)
  m0 : ∀ c, c ∈ nodes0 w h ↔ inW (2 * w - 1) (2 * h - 1) c ∧ (c.1 % 2 = 0 ∧ c.2 % 2 = 0) ∧ c ≠ (0, 0)
  m1 : ∀ c, c ∈ nodes1 w h ↔ inW (2 * w - 1) (2 * h - 1) c ∧ c.1 % 2 = 1 ∧ c.2 % 2 = 1
  me : ∀ c, c ∈ edgesZ w h ↔ inW (2 * w - 1) (2 * h - 1) c ∧ (c.1 + c.2) % 2 = 1
  lk : ∀ l ∈ linksZ w h, ((lkN w l).1 < w * h ∧ (lkN w l).2 < w * h) ∧ ∃ d, d ∈ dirs4 ∧ pad (cellP w (lkN w l).1) d = lkC l ∧ pad (lkC l) d = cellP w (lkN w l).2
theorem floor_ok {w h : Nat} (hg : gridB w h = true) : FloorOk w h := by
  obtain ⟨⟨a1, a2⟩, a3, a4⟩ := (gridB_iff _ _).1 hg
  have ht := all2 floor_tab w h (by omega) (by omega)
  simp only [Bool.or_eq_true, beq_iff_eq] at ht
  have hb : floorB w h = true := by
    rcases ht with (e | e) | e
    · omega
    · omega
    · exact e
  unfold floorB at hb
  simp only [Bool.and_eq_true, decide_eq_true_eq, beq_iff_eq, List.all_eq_true] at hb
  obtain ⟨⟨⟨⟨⟨⟨⟨⟨b1, b2⟩, b3⟩, b4⟩, b5⟩, b6⟩, b7⟩, b8⟩, b9⟩ := hb
  refine ⟨b1, b2, b3, b4, fun c => ?_, fun c => ?_, fun c => ?_, fun l hl => ?_⟩
  · rw [← pbox_iff]
    constructor
    · intro hc
      have hp : c ∈ pbox w h := by simpa using b6 c hc
      have := (b5 c hp).1.1
      rw [List.contains_iff_mem.2 hc] at this
      have := this.symm
      simp only [Bool.and_eq_true, beq_iff_eq, bne_iff_ne] at this
      exact ⟨hp, this.1, this.2⟩
    · rintro ⟨hp, hc, hn⟩
      have := (b5 c hp).1.1
      rw [show (c.1 % 2 == 0 && c.2 % 2 == 0 && c != (0, 0)) = true by simp [hc.1, hc.2, hn]] at this
      exact List.contains_iff_mem.1 this
  · rw [← pbox_iff]
    constructor
    · intro hc
      have hp : c ∈ pbox w h := by simpa using b7 c hc
      have := (b5 c hp).1.2
      rw [List.contains_iff_mem.2 hc] at this
      have := this.symm
      simp only [Bool.and_eq_true, beq_iff_eq] at this
      exact ⟨hp, this.1, this.2⟩
    · rintro ⟨hp, hc⟩
      have := (b5 c hp).1.2
      rw [show (c.1 % 2 == 1 && c.2 % 2 == 1) = true by simp [hc.1, hc.2]] at this
      exact List.contains_iff_mem.1 this
  · rw [← pbox_iff]
    constructor
    · intro hc
      have hp : c ∈ pbox w h := by simpa using b8 c hc
      have := (b5 c hp).2
      rw [List.contains_iff_mem.2 hc] at this
      have := this.symm
      simp only [beq_iff_eq] at this
      exact ⟨hp, this⟩
    · rintro ⟨hp, hc⟩
      have := (b5 c hp).2
      rw [show ((c.1 + c.2) % 2 == 1) = true by simp [hc]] at this
      exact List.contains_iff_mem.1 this
  · obtain ⟨⟨c1, c2⟩, c3⟩ := b9 l hl
    refine ⟨⟨c1, c2⟩, if l.2.2 then (0, 1) else (1, 0), by split <;> simp [dirs4], ?_, ?_⟩
    · have h1 := congrArg Prod.fst c3
      dsimp only at h1
      rw [h1]
      obtain ⟨x, y, d⟩ := l
      cases d <;> simp [lkC, pad, neg] <;> omega
    · have h1 := congrArg Prod.snd c3
      dsimp only at h1
      exact h1.symm

/-- What a search from the first nodes finds. -/
structure Reach (r W H : Int) (has init R : Int × Int → Prop) (d : Int × Int → Int × Int) (rk : Int × Int → Nat) : Prop where
  rng : ∀ v, R v → inW W H v ∧ (v.1 % 2 = r ∧ v.2 % 2 = r) ∧ ¬ init v
  dir : ∀ v, R v → d v ∈ dirs4
  edg : ∀ v, R v → has (pad v (d v))
  par : ∀ v, R v → init (pad (pad v (d v)) (d v)) ∨ (R (pad (pad v (d v)) (d v)) ∧ rk (pad (pad v (d v)) (d v)) < rk v)
  clo : ∀ v, init v ∨ R v → ∀ e ∈ dirs4, inW W H (pad (pad v e) e) → has (pad v e) → init (pad (pad v e) e) ∨ R (pad (pad v e) e)
theorem Reach.next {r W H : Int} {has init R : Int × Int → Prop} {d : Int × Int → Int × Int} {rk : Int × Int → Nat} (h : Reach r W H has init R d rk) {v : Int × Int} (hv : R v) (hn : R (pad (pad v (d v)) (d v))) : rk (pad (pad v (d v)) (d v)) < rk v := by
  rcases h.par v hv with hi | hi
  · exact absurd hi (h.rng _ hn).2.2
  · exact hi.2
theorem Reach.inj {r W H : Int} {has init R : Int × Int → Prop} {d : Int × Int → Int × Int} {rk : Int × Int → Nat} (h : Reach r W H has init R d rk) {u v : Int × Int} (hu : R u) (hv : R v) (he : pad u (d u) = pad v (d v)) : u = v := by
  rcases two_ends (h.rng u hu).2.1 (h.rng v hv).2.1 (h.dir u hu) (h.dir v hv) he with ⟨q, _⟩ | ⟨q1, _, q3⟩
  · exact q
  · have h1 := h.next hv (by rw [← q1]; exact hu)
    have h2 := h.next hu (by rw [← q3]; exact hv)
    rw [← q1] at h1; rw [← q3] at h2
    omega
theorem pad_cancel {v d e : Int × Int} (h : pad v d = pad v e) : d = e := by
  obtain ⟨a, b⟩ := v
  obtain ⟨c, f⟩ := d
  obtain ⟨g, k⟩ := e
  simp [pad] at h ⊢; omega
/-- Two searches that reach all nodes come to the same ways. -/
theorem Reach.uniq {r W H : Int} {has init R1 R2 : Int × Int → Prop} {d1 d2 : Int × Int → Int × Int} {k1 k2 : Int × Int → Nat} (h1 : Reach r W H has init R1 d1 k1) (h2 : Reach r W H has init R2 d2 k2)
    (V E : List (Int × Int)) (hn : V.Nodup) (hl : E.length ≤ V.length) (hE : ∀ v ∈ V, ∀ e ∈ dirs4, has (pad v e) → pad v e ∈ E) (f1 : ∀ v ∈ V, R1 v) (f2 : ∀ v ∈ V, R2 v) : ∀ v ∈ V, d1 v = d2 v := by
  intro v hv
  refine pad_cancel (v := v) (one_rooting V E hn hl (fun v => pad v (d1 v)) (fun v => pad v (d2 v)) (fun v hv => hE v hv _ (h1.dir v (f1 v hv)) (h1.edg v (f1 v hv))) (fun v hv => hE v hv _ (h2.dir v (f2 v hv)) (h2.edg v (f2 v hv)))
    (fun u hu v hv => h1.inj (f1 u hu) (f1 v hv)) (fun u hu v hv => h2.inj (f2 u hu) (f2 v hv)) k1 (fun v hv u hu huv he => ?_) v hv)
  rcases two_ends (h1.rng v (f1 v hv)).2.1 (h2.rng u (f2 u hu)).2.1 (h1.dir v (f1 v hv)) (h2.dir u (f2 u hu)) he with ⟨q, _⟩ | ⟨_, _, q3⟩
  · exact absurd q.symm huv
  · have := h1.next (f1 v hv) (by rw [← q3]; exact f1 u hu)
    rw [← q3] at this; exact this
theorem rk_bound (rk : Int × Int → Nat) : ∀ V : List (Int × Int), ∃ M, ∀ v ∈ V, rk v ≤ M
  | [] => ⟨0, fun v hv => by simp at hv⟩
  | a :: V => by
    obtain ⟨M, hM⟩ := rk_bound rk V
    refine ⟨max M (rk a), fun v hv => ?_⟩
    rcases List.mem_cons.1 hv with rfl | hv
    · omega
    · have := hM v hv; omega
/-- The facts of a tree. -/
structure TreeOk (w h : Nat) (ls : List Lk) : Prop where
  nd : (ls.map lkC).Nodup
  ln : ls.length = w * h - 1
  sb : ∀ l ∈ ls, l ∈ linksZ w h
  cn : ∀ i, i < w * h → Con (ls.map (lkN w)) 0 i
theorem lkC_inj {l m : Lk} (h : lkC l = lkC m) : l = m := by
  obtain ⟨x, y, d⟩ := l
  obtain ⟨x2, y2, d2⟩ := m
  unfold lkC at h
  cases d <;> cases d2 <;> simp at h ⊢ <;> omega
theorem tree_ok {w h : Nat} {ls : List Lk} (ht : treeB w h ls = true) : gridB w h = true ∧ TreeOk w h ls := by
  unfold treeB at ht
  simp only [Bool.and_eq_true, List.all_eq_true, decide_eq_true_eq] at ht
  obtain ⟨hg, hl, hin, hok⟩ := ht
  have hin' : ∀ l ∈ ls, l ∈ linksZ w h := fun l hl => by simpa using hin l hl
  have hb := (gridB_iff _ _).1 hg
  have hp : 0 < w * h := Nat.mul_pos (by omega) (by omega)
  have hll : ls.length = w * h - 1 := by
    have : (w : Int) * (h : Int) = ((w * h : Nat) : Int) := by simp
    omega
  have hok' : okAll (List.range (w * h)) (ls.map (lkN w)) = true := by simpa using hok
  have hnd := (ok_pair (ls.map (lkN w)) (List.range (w * h)) (w * h) (by simp) (ends_lt hg hin') hok').1
  refine ⟨hg, ?_, hll, hin', (tree_iff (n := w * h) (ls.map (lkN w)) hp (by rw [List.length_map]; exact hll) (ends_lt hg hin')).1 hok'⟩
  have hls : ls.Nodup := by
    rw [List.Nodup, List.pairwise_map] at hnd
    exact hnd.imp fun hab e => hab (by rw [e])
  exact map_nodup hls fun u _ v _ e => lkC_inj e
def isO (v : Int × Int) : Prop := v = (0, 0)
def out1 (W H : Int) (v : Int × Int) : Prop := (v.1 % 2 = 1 ∧ v.2 % 2 = 1) ∧ ¬ inW W H v
def has0 (ls : List Lk) (c : Int × Int) : Prop := c ∈ ls.map lkC
def has1 (W H : Int) (ls : List Lk) (c : Int × Int) : Prop := inW W H c ∧ c ∉ ls.map lkC
theorem pad_back {v d : Int × Int} : pad (pad v d) (neg d) = v ∧ pad (pad v (neg d)) d = v := by
  obtain ⟨x, y⟩ := v
  obtain ⟨a, b⟩ := d
  constructor <;> simp [pad, neg] <;> omega
theorem neg_dir {d : Int × Int} (h : d ∈ dirs4) : neg d ∈ dirs4 := by
  rcases (dirs4_iff d).1 h with rfl | rfl | rfl | rfl <;> simp [neg, dirs4]
/-- All posts are reached. -/
theorem Reach.full0 {w h : Nat} {ls : List Lk} {R : Int × Int → Prop} {d : Int × Int → Int × Int} {rk : Int × Int → Nat} (hf : FloorOk w h) (hw : 0 < w * h) (ht : TreeOk w h ls) (hr : Reach 0 (2 * w - 1) (2 * h - 1) (has0 ls) isO R d rk) : ∀ v ∈ nodes0 w h, R v := by
  have hcell : ∀ k, k < w * h → inW (2 * w - 1) (2 * h - 1) (cellP w k) := by
    intro k hk
    by_cases h0 : k = 0
    · subst h0
      have h1 : 0 < w := Nat.pos_of_ne_zero fun e => by subst e; simp at hw
      have h2 : 0 < h := Nat.pos_of_ne_zero fun e => by subst e; simp at hw
      unfold cellP inW; simp; omega
    · exact ((hf.m0 _).1 (List.mem_map.2 ⟨k - 1, by simp; omega, by rw [Nat.sub_add_cancel (by omega)]⟩)).1
  have key : ∀ i j, Con (ls.map (lkN w)) i j → (i < w * h ↔ j < w * h) ∧ (i < w * h → ((isO (cellP w i) ∨ R (cellP w i)) ↔ (isO (cellP w j) ∨ R (cellP w j)))) := by
    intro i j c
    induction c with
    | refl a => exact ⟨Iff.rfl, fun _ => Iff.rfl⟩
    | @edge a b he =>
      obtain ⟨l, hl, e⟩ := List.mem_map.1 he
      obtain ⟨⟨c1, c2⟩, δ, hδ, c3, c4⟩ := hf.lk l (ht.sb l hl)
      rw [e] at c1 c2 c3 c4
      have hm : has0 ls (lkC l) := List.mem_map.2 ⟨l, hl, rfl⟩
      refine ⟨by simp [c1, c2], fun _ => ⟨fun q => ?_, fun q => ?_⟩⟩
      · have := hr.clo _ q δ hδ (by rw [c3, c4]; exact hcell _ c2) (by rw [c3]; exact hm)
        rw [c3, c4] at this; exact this
      · have e1 : pad (cellP w b) (neg δ) = lkC l := by rw [← c4]; exact pad_back.1
        have e2 : pad (lkC l) (neg δ) = cellP w a := by rw [← c3]; exact pad_back.1
        have := hr.clo _ q (neg δ) (neg_dir hδ) (by rw [e1, e2]; exact hcell _ c1) (by rw [e1]; exact hm)
        rw [e1, e2] at this; exact this
    | symm _ ih => exact ⟨ih.1.symm, fun hx => (ih.2 (ih.1.2 hx)).symm⟩
    | trans _ _ ih1 ih2 => exact ⟨ih1.1.trans ih2.1, fun hx => (ih1.2 hx).trans (ih2.2 (ih1.1.1 hx))⟩
  intro v hv
  obtain ⟨k, hk, rfl⟩ := List.mem_map.1 hv
  simp only [List.mem_range] at hk
  have h1 := ((key 0 (k + 1) (ht.cn _ (by omega))).2 hw).1 (.inl (by simp [isO, cellP]))
  rcases h1 with h1 | h1
  · exact absurd h1 ((hf.m0 _).1 hv).2.2
  · exact h1
theorem side_swap {u v d e : Int × Int} (S : Int × Int → Bool) (h : (u = v ∧ d = e) ∨ (u = pad (pad v e) e ∧ d = neg e ∧ v = pad (pad u d) d)) (hs : S (sideA u d) = S (sideB u d)) : S (sideA v e) = S (sideB v e) := by
  rcases h with ⟨rfl, rfl⟩ | ⟨rfl, rfl, _⟩
  · exact hs
  · rw [side_neg.1, side_neg.2] at hs; exact hs.symm
/-- Unlike sides nowhere: then the set is empty. -/
theorem no_set {W H : Int} (S : Int × Int → Bool) (hS : ∀ f, S f = true → inW W H f ∧ f.1 % 2 = 1 ∧ f.2 % 2 = 1) (hs : ∀ v e, v.1 % 2 = 0 → v.2 % 2 = 0 → e ∈ dirs4 → S (sideA v e) = S (sideB v e)) : ∀ f, S f = false := by
  have key : ∀ (n : Nat) (f : Int × Int), f.1 < (n : Int) → S f = false := by
    intro n
    induction n with
    | zero =>
      intro f hf
      cases h : S f
      · rfl
      · have := (hS f h).1.1.1; omega
    | succ n ih =>
      intro f hf
      cases h : S f
      · rfl
      · obtain ⟨_, p1, p2⟩ := hS f h
        obtain ⟨x, y⟩ := f
        have g := hs (x - 1, y - 1) (0, 1) (by simp at p1 ⊢; omega) (by simp at p2 ⊢; omega) (by simp [dirs4])
        have e1 : sideA (x - 1, y - 1) (0, 1) = (x, y) := by simp [sideA, pad, perp]
        have e2 : sideB (x - 1, y - 1) (0, 1) = (x - 2, y) := by simp [sideB, pad, perp, neg]; omega
        rw [e1, e2, h, ih (x - 2, y) (by simp at hf ⊢; omega)] at g
        exact absurd g (by simp)
  intro f
  exact key (f.1 + 1).toNat f (by omega)
theorem own_edge {w h : Nat} {ls : List Lk} {R : Int × Int → Prop} {d : Int × Int → Int × Int} {rk : Int × Int → Nat} (hf : FloorOk w h) (ht : TreeOk w h ls) (hr : Reach 0 (2 * w - 1) (2 * h - 1) (has0 ls) isO R d rk) (hfull : ∀ v ∈ nodes0 w h, R v) {c : Int × Int} (hc : has0 ls c) : ∃ u ∈ nodes0 w h, pad u (d u) = c := by
  have hn := map_nodup (f := fun v => pad v (d v)) hf.n0 fun u hu v hv => hr.inj (hfull u hu) (hfull v hv)
  have := all_hit hn (E := ls.map lkC) (fun x hx => by obtain ⟨v, hv, rfl⟩ := List.mem_map.1 hx; exact hr.edg v (hfull v hv)) (by rw [List.length_map, List.length_map, ht.ln]; simp [nodes0]) hc
  obtain ⟨u, hu, e⟩ := List.mem_map.1 this
  exact ⟨u, hu, e⟩
open Classical in
/-- All faces are reached. -/
theorem Reach.full1 {w h : Nat} {ls : List Lk} {R0 R : Int × Int → Prop} {d0 d : Int × Int → Int × Int} {k0 rk : Int × Int → Nat} (hf : FloorOk w h) (ht : TreeOk w h ls) (h0 : Reach 0 (2 * w - 1) (2 * h - 1) (has0 ls) isO R0 d0 k0) (f0 : ∀ v ∈ nodes0 w h, R0 v)
    (hr : Reach 1 (2 * w - 1) (2 * h - 1) (has1 (2 * w - 1) (2 * h - 1) ls) (out1 (2 * w - 1) (2 * h - 1)) R d rk) : ∀ v ∈ nodes1 w h, R v := by
  obtain ⟨M, hM⟩ := rk_bound k0 (nodes0 w h)
  let S : Int × Int → Bool := fun f => decide (f ∈ nodes1 w h ∧ ¬ R f)
  have hSt : ∀ f, S f = true ↔ f ∈ nodes1 w h ∧ ¬ R f := fun f => by simp [S]
  have hown : ∀ v e, v.1 % 2 = 0 → v.2 % 2 = 0 → e ∈ dirs4 → S (sideA v e) ≠ S (sideB v e) → ∃ u, u ∈ nodes0 w h ∧ pad u (d0 u) = pad v e := by
    intro v e p1 p2 he hS
    refine own_edge hf ht h0 f0 ?_
    have key : ∀ f g δ, δ ∈ dirs4 → pad g δ = pad v e → pad (pad v e) δ = f → (g.1 % 2 = 1 ∧ g.2 % 2 = 1) → S f = true → S g = false → has0 ls (pad v e) := by
      intro f g δ hδ e1 e2 hp hf1 hg
      obtain ⟨hfm, hfn⟩ := (hSt f).1 hf1
      have hfr := (hf.m1 f).1 hfm
      refine Decidable.byContradiction fun hno => ?_
      have hcin : inW (2 * w - 1) (2 * h - 1) (pad v e) := by
        have e3 : pad v e = pad f (neg δ) := by rw [← e2]; exact pad_back.1.symm
        rw [e3]
        obtain ⟨x, y⟩ := f
        obtain ⟨⟨⟨r1, r2⟩, r3, r4⟩, r5, r6⟩ := hfr
        simp only at r1 r2 r3 r4 r5 r6
        rcases (dirs4_iff δ).1 hδ with rfl | rfl | rfl | rfl <;> simp [pad, neg, inW] <;> omega
      have hgi : out1 (2 * w - 1) (2 * h - 1) g ∨ R g := by
        by_cases hgm : g ∈ nodes1 w h
        · right
          refine Decidable.byContradiction fun hgn => ?_
          have := (hSt g).2 ⟨hgm, hgn⟩
          rw [hg] at this; simp at this
        · left
          exact ⟨hp, fun hin => hgm ((hf.m1 g).2 ⟨hin, hp⟩)⟩
      have := hr.clo g hgi δ hδ (by rw [e1, e2]; exact hfr.1) (by rw [e1]; exact ⟨hcin, hno⟩)
      rw [e1, e2] at this
      rcases this with q | q
      · exact q.2 hfr.1
      · exact hfn q
    have hpd : perp e ∈ dirs4 := by rcases (dirs4_iff e).1 he with rfl | rfl | rfl | rfl <;> simp [perp, dirs4]
    have a1 : pad (sideB v e) (perp e) = pad v e := pad_back.2
    have a2 : pad (pad v e) (perp e) = sideA v e := rfl
    have b1 : pad (sideA v e) (neg (perp e)) = pad v e := pad_back.1
    have b2 : pad (pad v e) (neg (perp e)) = sideB v e := rfl
    have pp : ((sideA v e).1 % 2 = 1 ∧ (sideA v e).2 % 2 = 1) ∧ (sideB v e).1 % 2 = 1 ∧ (sideB v e).2 % 2 = 1 := by
      obtain ⟨x, y⟩ := v
      simp only at p1 p2
      rcases (dirs4_iff e).1 he with rfl | rfl | rfl | rfl <;> simp [sideA, sideB, pad, perp, neg] <;> omega
    cases hA : S (sideA v e) <;> cases hB : S (sideB v e)
    · rw [hA, hB] at hS; exact absurd rfl hS
    · exact key _ _ _ (neg_dir hpd) b1 b2 pp.1 hB hA
    · exact key _ _ _ hpd a1 a2 pp.2 hA hB
    · rw [hA, hB] at hS; exact absurd rfl hS
  have hpeel := peel (fun v => v ∈ nodes0 w h) (fun _ => True) d0 k0 M 0 (fun v hv => (h0.rng v (f0 v hv)).2.1) (fun v hv => h0.dir v (f0 v hv)) (fun _ _ _ _ => trivial) (fun u hu _ hn => h0.next (f0 u hu) (f0 _ hn)) (fun u hu _ => hM u hu) S hown
  have hall := no_set (W := 2 * w - 1) (H := 2 * h - 1) S (fun f hfS => by have := (hf.m1 f).1 ((hSt f).1 hfS).1; exact ⟨this.1, this.2⟩) fun v e p1 p2 he => by
    refine Decidable.byContradiction fun hne => ?_
    obtain ⟨u, hu, hue⟩ := hown v e p1 p2 he hne
    exact hne (side_swap S (two_ends (h0.rng u (f0 u hu)).2.1 ⟨p1, p2⟩ (h0.dir u (f0 u hu)) he hue) (hpeel u hu trivial))
  intro v hv
  refine Decidable.byContradiction fun hn => ?_
  have := (hSt v).2 ⟨hv, hn⟩
  rw [hall v] at this; simp at this
end Go.Proofs.Ytehnbalbpfmijaa

namespace Go.Proofs.Ytehnbalbpfmijaa
open Go.RowKit
set_option linter.unusedVariables false

/-- Whether the place of a link holds none. -/
def openB (ls : List Lk) (c : Int × Int) : Bool := decide (fstZ (lkEq ls (c.1 / 2) (c.2 / 2) (c.2 % 2 == 1)) ls.length 0 < 0)
theorem openB_iff (ls : List Lk) (c : Int × Int) (h1 : 0 ≤ c.1) (h2 : 0 ≤ c.2) (h : (c.1 + c.2) % 2 = 1) : openB ls c = true ↔ c ∉ ls.map lkC := by
  unfold openB
  rw [decide_eq_true_iff, lkEq_none]
  have e : lkC (c.1 / 2, c.2 / 2, c.2 % 2 == 1) = c := by
    obtain ⟨x, y⟩ := c
    simp only at h h1 h2
    unfold lkC
    by_cases q : y % 2 = 1
    · rw [show (y % 2 == 1) = true by simp [q]]; simp; omega
    · rw [show (y % 2 == 1) = false by simp [q]]; simp; omega
  constructor
  · intro hn hm
    obtain ⟨l, hl, q⟩ := List.mem_map.1 hm
    rw [← e] at q
    rw [← lkC_inj q] at hn
    exact hn hl
  · intro hn hm
    exact hn (List.mem_map.2 ⟨_, hm, e⟩)
def sidesZ : List (Int × Int) := [(0, -1), (-1, 0), (1, 0), (0, 1)]
def sd (j : Nat) : Int × Int := (dx sidesZ j, dy sidesZ j)
theorem sd_dir {j : Nat} (h : j < 4) : sd j ∈ dirs4 := by
  rcases show j = 0 ∨ j = 1 ∨ j = 2 ∨ j = 3 by omega with rfl | rfl | rfl | rfl <;> decide
theorem dir_sd {d : Int × Int} (h : d ∈ dirs4) : ∃ j, j < 4 ∧ sd j = d := by
  rcases (dirs4_iff d).1 h with rfl | rfl | rfl | rfl
  · exact ⟨2, by omega, by decide⟩
  · exact ⟨3, by omega, by decide⟩
  · exact ⟨1, by omega, by decide⟩
  · exact ⟨0, by omega, by decide⟩
/-- The face beside face f: its place. -/
def nbU (a f : Nat) (d : Int × Int) : Int := ((f % a : Nat) : Int) + d.1
def nbV (a f : Nat) (d : Int × Int) : Int := ((f / a : Nat) : Int) + d.2
def outB (a b f : Nat) (d : Int × Int) : Bool := decide (nbU a f d < 0) || (decide (nbV a f d < 0) || (decide ((a : Int) ≤ nbU a f d) || decide ((b : Int) ≤ nbV a f d)))
def nb (a f : Nat) (d : Int × Int) : Nat := (nbV a f d * a + nbU a f d).toNat
theorem outB_no {a b f : Nat} {d : Int × Int} (h : outB a b f d = false) : (0 ≤ nbU a f d ∧ nbU a f d < a) ∧ 0 ≤ nbV a f d ∧ nbV a f d < b := by
  unfold outB at h
  simp only [Bool.or_eq_false_iff, decide_eq_false_iff_not] at h
  omega
theorem nb_lt {a b f : Nat} {d : Int × Int} (h : outB a b f d = false) : nb a f d < a * b ∧ (nb a f d : Int) = nbV a f d * a + nbU a f d ∧ ((nb a f d % a : Nat) : Int) = nbU a f d ∧ ((nb a f d / a : Nat) : Int) = nbV a f d := by
  obtain ⟨⟨h1, h2⟩, h3, h4⟩ := outB_no h
  unfold nb
  obtain ⟨u, hu⟩ := Int.eq_ofNat_of_zero_le h1
  obtain ⟨v, hv⟩ := Int.eq_ofNat_of_zero_le h3
  rw [hu] at h2 ⊢; rw [hv] at h4 ⊢
  have e : ((v : Int) * (a : Int) + (u : Int)) = ((v * a + u : Nat) : Int) := by simp
  rw [e, Int.toNat_natCast]
  have hu2 : u < a := by omega
  have hv2 : v < b := by omega
  have h5 : (v + 1) * a ≤ b * a := Nat.mul_le_mul (by omega) (Nat.le_refl _)
  have h6 : (v + 1) * a = v * a + a := Nat.succ_mul v a
  have h7 : a * b = b * a := Nat.mul_comm _ _
  refine ⟨by omega, rfl, ?_, ?_⟩
  · rw [Nat.mul_comm v a, Nat.mul_add_mod, Nat.mod_eq_of_lt hu2]
  · rw [Nat.mul_comm v a, Nat.mul_add_div (by omega), Nat.div_eq_of_lt hu2, Nat.add_zero]
/-- Whether face f finds its way along d now. -/
def condB (a b : Nat) (ls : List Lk) (kn : Nat → Bool) (f : Nat) (d : Int × Int) : Bool := !kn f && (openB ls (pad (cellF (a + 1) f) d) && (outB a b f d || kn (nb a f d)))
def updB (kn : Nat → Bool) (f : Nat) : Nat → Bool := fun g => if g = f then true else kn g
def updC (cs : Nat → Int × Int) (f : Nat) (c : Int × Int) : Nat → Int × Int := fun g => if g = f then c else cs g
/-- What is known has a way. -/
def OInv (a b : Nat) (ls : List Lk) (kn : Nat → Bool) (cs : Nat → Int × Int) : Prop :=
  ∃ rk : Nat → Nat, ∀ f, f < a * b → kn f = true → ∃ d, d ∈ dirs4 ∧ cs f = pad (cellF (a + 1) f) d ∧ openB ls (cs f) = true ∧ (outB a b f d = true ∨ (outB a b f d = false ∧ kn (nb a f d) = true ∧ rk (nb a f d) < rk f))
theorem OInv.start (a b : Nat) (ls : List Lk) (cs : Nat → Int × Int) : OInv a b ls (fun _ => false) cs := ⟨fun _ => 0, fun f _ h => by simp at h⟩
theorem cond_iff {a b : Nat} {ls : List Lk} {kn : Nat → Bool} {f : Nat} {d : Int × Int} : condB a b ls kn f d = true ↔ kn f = false ∧ openB ls (pad (cellF (a + 1) f) d) = true ∧ (outB a b f d = true ∨ kn (nb a f d) = true) := by
  unfold condB; simp [Bool.and_eq_true, Bool.or_eq_true]
theorem OInv.step {a b : Nat} {ls : List Lk} {kn : Nat → Bool} {cs : Nat → Int × Int} (h : OInv a b ls kn cs) {f : Nat} {d : Int × Int} (hd : d ∈ dirs4) (hc : condB a b ls kn f d = true) : OInv a b ls (updB kn f) (updC cs f (pad (cellF (a + 1) f) d)) := by
  obtain ⟨rk, hr⟩ := h
  obtain ⟨c1, c2, c3⟩ := cond_iff.1 hc
  refine ⟨fun g => if g = f then rk (nb a f d) + 1 else rk g, fun g hg hk => ?_⟩
  by_cases e : g = f
  · subst e
    refine ⟨d, hd, by simp [updC], by simp only [updC, if_pos]; exact c2, ?_⟩
    cases ho : outB a b g d
    · right
      rw [ho] at c3
      simp only [Bool.false_eq_true, false_or] at c3
      have hne : nb a g d ≠ g := fun q => by rw [q, c1] at c3; simp at c3
      exact ⟨rfl, by simp [updB, hne, c3], by simp [hne]⟩
    · exact .inl rfl
  · have hk' : kn g = true := by simpa [updB, e] using hk
    obtain ⟨d2, h1, h2, h3, h4⟩ := hr g hg hk'
    refine ⟨d2, h1, by simp [updC, e, h2], by simp only [updC, if_neg e]; exact h3, ?_⟩
    rcases h4 with h4 | ⟨h4, h5, h6⟩
    · exact .inl h4
    · have hne : nb a g d2 ≠ f := fun q => by rw [q, c1] at h5; simp at h5
      exact .inr ⟨h4, by simp [updB, hne, h5], by simp only; rw [if_neg hne, if_neg e]; exact h6⟩
/-- Nothing was to do before face i, side j. -/
def QuietTo (a b : Nat) (ls : List Lk) (kn : Nat → Bool) (i j : Nat) : Prop := (∀ f, f < i → ∀ k, k < 4 → condB a b ls kn f (sd k) = false) ∧ ∀ k, k < j → condB a b ls kn i (sd k) = false
theorem QuietTo.start (a b : Nat) (ls : List Lk) (kn : Nat → Bool) : QuietTo a b ls kn 0 0 := ⟨fun f hf => by omega, fun k hk => by omega⟩
theorem QuietTo.step {a b : Nat} {ls : List Lk} {kn : Nat → Bool} {i j : Nat} (h : QuietTo a b ls kn i j) (hc : condB a b ls kn i (sd j) = false) : QuietTo a b ls kn i (j + 1) :=
  ⟨h.1, fun k hk => by
    rcases Nat.lt_succ_iff_lt_or_eq.1 hk with hk | rfl
    · exact h.2 k hk
    · exact hc⟩
theorem QuietTo.next {a b : Nat} {ls : List Lk} {kn : Nat → Bool} {i : Nat} (h : QuietTo a b ls kn i 4) : QuietTo a b ls kn (i + 1) 0 :=
  ⟨fun f hf k hk => by
    rcases Nat.lt_succ_iff_lt_or_eq.1 hf with hf | rfl
    · exact h.1 f hf k hk
    · exact h.2 k hk, fun k hk => by omega⟩
/-- How many faces know no way. -/
def unk (F : Nat) (kn : Nat → Bool) : Nat := (List.range F).countP fun i => !kn i
theorem unk_upd {F : Nat} {kn : Nat → Bool} {f : Nat} (hf : f < F) (hk : kn f = false) : unk F (updB kn f) + 1 = unk F kn := by
  unfold unk
  have := count_split (fun i => !kn i) (fun i => !updB kn f i) f (fun i => ?_) ?_ F
  · rw [if_pos hf] at this; exact this.symm
  · by_cases e : i = f
    · subst e; simp [hk, updB]
    · simp [updB, e]
  · simp [updB]
theorem unk_le (F : Nat) (kn : Nat → Bool) : unk F kn ≤ F := by
  unfold unk
  have := List.countP_le_length (p := fun i => !kn i) (l := List.range F)
  simpa using this
theorem cellF_mod {a f : Nat} : cellF (a + 1) f = (2 * ((f % a : Nat) : Int) + 1, 2 * ((f / a : Nat) : Int) + 1) := by unfold cellF; simp
theorem cellF_nb {a b f : Nat} {d : Int × Int} (h : outB a b f d = false) : pad (pad (cellF (a + 1) f) d) d = cellF (a + 1) (nb a f d) := by
  obtain ⟨_, _, h1, h2⟩ := nb_lt h
  rw [cellF_mod, cellF_mod, h1, h2]
  unfold pad nbU nbV
  ext <;> simp <;> omega
theorem outB_iff {a b f : Nat} {d : Int × Int} (hf : f < a * b) (hd : d ∈ dirs4) : outB a b f d = true ↔ ¬ inW (2 * ((a + 1 : Nat) : Int) - 1) (2 * ((b + 1 : Nat) : Int) - 1) (pad (pad (cellF (a + 1) f) d) d) := by
  have ha : 0 < a := Nat.pos_of_ne_zero fun e => by subst e; simp at hf
  have h1 : f % a < a := Nat.mod_lt _ ha
  have h2 : f / a < b := (Nat.div_lt_iff_lt_mul ha).2 (by rw [Nat.mul_comm]; exact hf)
  rw [cellF_mod]
  unfold outB inW pad nbU nbV
  simp only [Bool.or_eq_true, decide_eq_true_eq]
  generalize f % a = p at *
  generalize f / a = q at *
  rcases (dirs4_iff d).1 hd with rfl | rfl | rfl | rfl <;> simp only <;> omega
/-- What the search leaves, told as a search of the lattice. -/
theorem out_reach {w h : Nat} {ls : List Lk} (hg : gridB w h = true) {kn : Nat → Bool} {cs : Nat → Int × Int} (hi : OInv (w - 1) (h - 1) ls kn cs) (hq : QuietTo (w - 1) (h - 1) ls kn ((w - 1) * (h - 1)) 0) :
    ∃ (d : Int × Int → Int × Int) (rk : Int × Int → Nat), Reach 1 (2 * w - 1) (2 * h - 1) (has1 (2 * w - 1) (2 * h - 1) ls) (out1 (2 * w - 1) (2 * h - 1)) (fun v => ∃ f, f < (w - 1) * (h - 1) ∧ v = cellF w f ∧ kn f = true) d rk ∧
      ∀ f, f < (w - 1) * (h - 1) → kn f = true → cs f = pad (cellF w f) (d (cellF w f)) := by
  have hb := (gridB_iff _ _).1 hg
  obtain ⟨a, rfl⟩ : ∃ a, w = a + 1 := ⟨w - 1, by omega⟩
  obtain ⟨b, rfl⟩ : ∃ b, h = b + 1 := ⟨h - 1, by omega⟩
  simp only [Nat.add_sub_cancel] at hi hq ⊢
  have hf := floor_ok hg
  have hn1 : nodes1 (a + 1) (b + 1) = (List.range (a * b)).map (cellF (a + 1)) := by simp [nodes1]
  have hinj : ∀ f g, f < a * b → g < a * b → cellF (a + 1) f = cellF (a + 1) g → f = g := by
    intro f g h1 h2 e
    rw [cellF_mod, cellF_mod] at e
    simp only [Prod.mk.injEq] at e
    have e1 : f % a = g % a := by omega
    have e2 : f / a = g / a := by omega
    have q1 := Nat.div_add_mod f a
    have q2 := Nat.div_add_mod g a
    rw [e1, e2] at q1; omega
  have hcell : ∀ f, f < a * b → inW (2 * ((a + 1 : Nat) : Int) - 1) (2 * ((b + 1 : Nat) : Int) - 1) (cellF (a + 1) f) ∧ (cellF (a + 1) f).1 % 2 = 1 ∧ (cellF (a + 1) f).2 % 2 = 1 := fun f h1 => (hf.m1 _).1 (by rw [hn1]; exact List.mem_map.2 ⟨f, by simpa using h1, rfl⟩)
  have hedge : ∀ f, f < a * b → ∀ d ∈ dirs4, inW (2 * ((a + 1 : Nat) : Int) - 1) (2 * ((b + 1 : Nat) : Int) - 1) (pad (cellF (a + 1) f) d) ∧ ((pad (cellF (a + 1) f) d).1 + (pad (cellF (a + 1) f) d).2) % 2 = 1 := by
    intro f h1 d hd
    obtain ⟨⟨⟨r1, r2⟩, r3, r4⟩, r5, r6⟩ := hcell f h1
    generalize cellF (a + 1) f = c at *
    obtain ⟨x, y⟩ := c
    simp only at r1 r2 r3 r4 r5 r6
    rcases (dirs4_iff d).1 hd with rfl | rfl | rfl | rfl <;> simp [pad, inW] <;> omega
  have hop : ∀ f, f < a * b → ∀ d ∈ dirs4, (openB ls (pad (cellF (a + 1) f) d) = true ↔ has1 (2 * ((a + 1 : Nat) : Int) - 1) (2 * ((b + 1 : Nat) : Int) - 1) ls (pad (cellF (a + 1) f) d)) := by
    intro f h1 d hd
    obtain ⟨h2, h3⟩ := hedge f h1 d hd
    rw [openB_iff ls _ h2.1.1 h2.2.1 h3]
    exact ⟨fun q => ⟨h2, q⟩, fun q => q.2⟩
  obtain ⟨rk, hr⟩ := hi
  have hch : ∀ f, ∃ d, f < a * b → kn f = true → d ∈ dirs4 ∧ cs f = pad (cellF (a + 1) f) d ∧ openB ls (cs f) = true ∧ (outB a b f d = true ∨ (outB a b f d = false ∧ kn (nb a f d) = true ∧ rk (nb a f d) < rk f)) := by
    intro f
    by_cases h1 : f < a * b
    · cases h2 : kn f
      · exact ⟨(0, 0), fun _ h => by simp at h⟩
      · obtain ⟨d, hd⟩ := hr f h1 h2
        exact ⟨d, fun _ _ => hd⟩
    · exact ⟨(0, 0), fun h => absurd h h1⟩
  obtain ⟨D, hD⟩ : ∃ D : Nat → Int × Int, ∀ f, f < a * b → kn f = true → D f ∈ dirs4 ∧ cs f = pad (cellF (a + 1) f) (D f) ∧ openB ls (cs f) = true ∧ (outB a b f (D f) = true ∨ (outB a b f (D f) = false ∧ kn (nb a f (D f)) = true ∧ rk (nb a f (D f)) < rk f)) := ⟨fun f => (hch f).choose, fun f => (hch f).choose_spec⟩
  let num : Int × Int → Nat := fun v => (((v.2 - 1) / 2) * (a : Int) + (v.1 - 1) / 2).toNat
  have hnum : ∀ f, f < a * b → num (cellF (a + 1) f) = f := by
    intro f h1
    show (((cellF (a + 1) f).2 - 1) / 2 * (a : Int) + ((cellF (a + 1) f).1 - 1) / 2).toNat = f
    rw [cellF_mod]
    simp only
    rw [show (2 * ((f / a : Nat) : Int) + 1 - 1) / 2 = ((f / a : Nat) : Int) by omega, show (2 * ((f % a : Nat) : Int) + 1 - 1) / 2 = ((f % a : Nat) : Int) by omega]
    have q1 := Nat.div_add_mod f a
    have q2 : ((f / a : Nat) : Int) * (a : Int) + ((f % a : Nat) : Int) = ((f / a * a + f % a : Nat) : Int) := by simp
    rw [q2, Int.toNat_natCast, Nat.mul_comm]; exact q1
  refine ⟨fun v => D (num v), fun v => rk (num v), ⟨?_, ?_, ?_, ?_, ?_⟩, ?_⟩
  · rintro v ⟨f, h1, rfl, h2⟩
    exact ⟨(hcell f h1).1, (hcell f h1).2, fun q => q.2 (hcell f h1).1⟩
  · rintro v ⟨f, h1, rfl, h2⟩
    show D (num (cellF (a + 1) f)) ∈ dirs4
    rw [hnum f h1]; exact (hD f h1 h2).1
  · rintro v ⟨f, h1, rfl, h2⟩
    show has1 _ _ ls (pad (cellF (a + 1) f) (D (num (cellF (a + 1) f))))
    rw [hnum f h1]
    obtain ⟨g1, g2, g3, _⟩ := hD f h1 h2
    exact (hop f h1 _ g1).1 (by rw [← g2]; exact g3)
  · rintro v ⟨f, h1, rfl, h2⟩
    show out1 _ _ (pad (pad (cellF (a + 1) f) (D (num (cellF (a + 1) f)))) (D (num (cellF (a + 1) f)))) ∨ ((∃ f', f' < a * b ∧ pad (pad (cellF (a + 1) f) (D (num (cellF (a + 1) f)))) (D (num (cellF (a + 1) f))) = cellF (a + 1) f' ∧ kn f' = true) ∧ rk (num (pad (pad (cellF (a + 1) f) (D (num (cellF (a + 1) f)))) (D (num (cellF (a + 1) f))))) < rk (num (cellF (a + 1) f)))
    rw [hnum f h1]
    obtain ⟨g1, g2, g3, g4⟩ := hD f h1 h2
    rcases g4 with g4 | ⟨g4, g5, g6⟩
    · left
      refine ⟨?_, (outB_iff h1 g1).1 g4⟩
      have := (hcell f h1).2
      generalize cellF (a + 1) f = c at *
      obtain ⟨x, y⟩ := c
      simp only at this
      rcases (dirs4_iff _).1 g1 with q | q | q | q <;> rw [q] <;> simp [pad] <;> omega
    · right
      have hl := (nb_lt g4).1
      rw [cellF_nb g4]
      refine ⟨⟨_, hl, rfl, g5⟩, ?_⟩
      rw [hnum _ hl]; exact g6
  · intro v hv d hd hin hh
    -- the far end is a face; nothing was to do there
    have hpar : v.1 % 2 = 1 ∧ v.2 % 2 = 1 := by
      rcases hv with hv | ⟨f, h1, rfl, _⟩
      · exact hv.1
      · exact (hcell f h1).2
    have hpar2 : (pad (pad v d) d).1 % 2 = 1 ∧ (pad (pad v d) d).2 % 2 = 1 := by
      obtain ⟨x, y⟩ := v
      simp only at hpar
      rcases (dirs4_iff d).1 hd with rfl | rfl | rfl | rfl <;> simp [pad] <;> omega
    have hmem := (hf.m1 _).2 ⟨hin, hpar2⟩
    rw [hn1] at hmem
    obtain ⟨g, hg1, hg2⟩ := List.mem_map.1 hmem
    have hg1 : g < a * b := by simpa using hg1
    right
    refine ⟨g, hg1, hg2.symm, ?_⟩
    cases hk : kn g
    · exfalso
      obtain ⟨k, hk4, hsd⟩ := dir_sd (neg_dir hd)
      have hc := hq.1 g hg1 k hk4
      rw [hsd] at hc
      have e1 : pad (cellF (a + 1) g) (neg d) = pad v d := by rw [hg2]; exact pad_back.1
      have e2 : pad (pad (cellF (a + 1) g) (neg d)) (neg d) = v := by rw [e1]; exact pad_back.1
      have h3 : openB ls (pad (cellF (a + 1) g) (neg d)) = true := (hop g hg1 _ (neg_dir hd)).2 (by rw [e1]; exact hh)
      have h4 : ¬ condB (a) (b) ls kn g (neg d) = true := by rw [hc]; simp
      rw [cond_iff] at h4
      refine h4 ⟨hk, h3, ?_⟩
      rcases hv with hv | ⟨f, hf1, hf2, hf3⟩
      · left
        rw [outB_iff hg1 (neg_dir hd), e2]
        exact hv.2
      · cases ho : outB a b g (neg d)
        · right
          have := cellF_nb ho
          rw [e2, hf2] at this
          rw [← hinj _ _ hf1 (nb_lt ho).1 this]; exact hf3
        · exact .inl rfl
    · rfl
  · intro f h1 h2
    show cs f = pad (cellF (a + 1) f) (D (num (cellF (a + 1) f)))
    rw [hnum f h1]; exact (hD f h1 h2).2.1
end Go.Proofs.Ytehnbalbpfmijaa
