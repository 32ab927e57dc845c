/- The reference's drawn heaps: l21Heap, DrawHeap. -/
import Derived.Test.YtgehollikdbapaaCur
import Derived.Test.YtgehollikdbapaaCurOwn
import Derived.Test.YtgehollikdbapaaHeapLaw
import Derived.Test.YtgehollikdbapaaPush
import Derived.Test.YtgehollikdbapaaFull
namespace Go.Proofs.Ytgehollikdbapaa
open Go.RowKit
set_option linter.unusedVariables false

/-- The world that had lo blocks. -/
def wlo (w : World) (lo : Nat) : World := { w with heap := w.heap.extract 0 lo }
theorem wlo_size (w : World) (lo : Nat) (h : lo ≤ w.heap.size) : (wlo w lo).heap.size = lo := by simp [wlo]; omega
theorem wlo_below (w : World) (lo : Nat) (h : lo ≤ w.heap.size) : Below lo (wlo w lo) w :=
  ⟨rfl, rfl, rfl, by rw [wlo_size w lo h]; exact h, fun k hk => by
    show w.heap[k]? = (w.heap.extract 0 lo)[k]?
    rw [Array.getElem?_extract]
    simp [show k < min lo w.heap.size by omega]⟩
/-- Rows of the call's own beside a cursor. -/
structure MC (lo : Nat) (w : World) (hi : Nat) (v : Value) (zss : List (List Int)) : Prop where
  own : OwnM w lo hi v zss
  hi_ : hi ≤ w.heap.size
  lo_ : lo ≤ hi
theorem MC.rel {lo hi : Nat} {w : World} {v : Value} {zss : List (List Int)} (h : MC lo w hi v zss) : MRel (wlo w lo) w hi v zss := by
  have hs := wlo_size w lo (Nat.le_trans h.lo_ h.hi_)
  exact ⟨by rw [hs]; exact h.own, by rw [hs]; exact wlo_below w lo (Nat.le_trans h.lo_ h.hi_), h.hi_, by rw [hs]; exact h.lo_⟩
theorem MC.of {lo hi : Nat} {w w' : World} {v : Value} {zss : List (List Int)} (h : MRel (wlo w lo) w' hi v zss) (hl : lo ≤ w.heap.size) : MC lo w' hi v zss := by
  obtain ⟨h1, h2, h3, h4⟩ := h
  rw [wlo_size w lo hl] at h1 h4
  exact ⟨h1, h3, h4⟩
theorem OwnM.old {w w' : World} {lo hi : Nat} {v : Value} {zss : List (List Int)} {row : Option Nat} (h : OwnM w lo hi v zss) (hg : w.grownBy w' row) (hr : ∀ k, row = some k → k < lo) : OwnM w' lo hi v zss := by
  obtain ⟨vs, h1, h2, h3⟩ := h
  have hk : ∀ {u : Value} {n : Nat} {xs : List Value} {e : TypeId}, w.ownsRow lo e 1 u n xs → w'.ownsRow lo e 1 u n xs := fun ho => World.ownsRow.kept ho hg (by
    cases e : Value.ownBlock _ with
    | none => exact .inl rfl
    | some a => exact .inr fun e2 => by have := (World.ownsRow.lt ho a e).1; have := hr a e2.symm; omega)
  exact ⟨vs, hk h1, fun i u hu => hk (h2 i u hu), h3⟩
theorem MC.old {w w' : World} {lo hi : Nat} {v : Value} {zss : List (List Int)} {row : Option Nat} (h : MC lo w hi v zss) (hg : w.grownBy w' row) (hr : ∀ k, row = some k → k < lo) : MC lo w' hi v zss :=
  ⟨h.own.old hg hr, Nat.le_trans h.hi_ hg.size, h.lo_⟩
theorem MC.young {w w' : World} {lo hi : Nat} {v : Value} {zss : List (List Int)} {row : Option Nat} (h : MC lo w hi v zss) (hg : w.grownBy w' row) (hr : ∀ k, row = some k → hi ≤ k) : MC lo w' hi v zss :=
  ⟨h.own.grown hg hr, Nat.le_trans h.hi_ hg.size, h.lo_⟩
theorem Cur.low {w w' : World} {q n lo : Nat} {v : Value} (h : Cur w q v n) (hb : Below lo w w') (hq : q < lo) : Cur w' q v n := by
  obtain ⟨i, x, hi, hb2, hr2⟩ := h
  exact ⟨i, x, hi, by rw [hb.block q hq]; exact hb2, hr2.keep fun p hp => World.cell?_of_block (hb.block _ (by omega))⟩
theorem grownBy_low {w wr w' : World} {row : Option Nat} (h : w.grownBy wr row) (hb : Below w.heap.size wr w') : w.grownBy w' row :=
  ⟨hb.os.trans h.os, hb.tape.trans h.tape, hb.output.trans h.output, Nat.le_trans h.size hb.size, fun k hk hne => (hb.block k hk).trans (h.block k hk hne)⟩
/-- A row of a heap so far: under the row above. -/
def HRow (h : Int) (up : List Int) (i : Nat) (zs : List Int) : Prop := ∀ j, j < zs.length → (0 ≤ el zs j ∧ el zs j ≤ h) ∧ (0 < j → el zs j ≤ el zs (j - 1)) ∧ (0 < i → el zs j ≤ el up j)
theorem el_app' (zs : List Int) (z : Int) (j : Nat) : el (zs ++ [z]) j = if j < zs.length then el zs j else if j = zs.length then z else 0 := by
  unfold el
  rw [List.getD_eq_getElem?_getD, List.getD_eq_getElem?_getD]
  by_cases h : j < zs.length
  · rw [List.getElem?_append_left h, if_pos h]
  · rw [List.getElem?_append_right (by omega), if_neg h]
    by_cases e : j = zs.length
    · simp [e]
    · rw [if_neg e, List.getElem?_eq_none (by simp; omega)]; rfl
theorem HRow.push {h z : Int} {up zs : List Int} {i : Nat} (hr : HRow h up i zs) (h0 : 0 ≤ z) (h1 : z ≤ h) (h2 : 0 < zs.length → z ≤ el zs (zs.length - 1)) (h3 : 0 < i → z ≤ el up zs.length) : HRow h up i (zs ++ [z]) := by
  intro j hj
  simp only [List.length_append, List.length_singleton] at hj
  rw [el_app', el_app']
  by_cases e : j < zs.length
  · obtain ⟨a, b, c⟩ := hr j e
    rw [if_pos e, if_pos (by omega)]
    exact ⟨a, b, c⟩
  · obtain rfl : j = zs.length := by omega
    rw [if_neg e, if_pos rfl]
    refine ⟨⟨h0, h1⟩, fun q => ?_, h3⟩
    rw [if_pos (by omega)]; exact h2 q
def HRows (b h : Int) (zss : List (List Int)) : Prop := ∀ i, i < zss.length → ((rw' zss i).length : Int) = b ∧ HRow h (rw' zss (i - 1)) i (rw' zss i)
theorem rw_app (zss : List (List Int)) (zs : List Int) (i : Nat) : rw' (zss ++ [zs]) i = if i < zss.length then rw' zss i else if i = zss.length then zs else [] := by
  unfold rw'
  rw [List.getD_eq_getElem?_getD, List.getD_eq_getElem?_getD]
  by_cases h : i < zss.length
  · rw [List.getElem?_append_left h, if_pos h]
  · rw [List.getElem?_append_right (by omega), if_neg h]
    by_cases e : i = zss.length
    · simp [e]
    · rw [if_neg e, List.getElem?_eq_none (by simp; omega)]; rfl
theorem HRows.push {b h : Int} {zss : List (List Int)} {zs : List Int} (hr : HRows b h zss) (hl : (zs.length : Int) = b) (hz : HRow h (rw' zss (zss.length - 1)) zss.length zs) : HRows b h (zss ++ [zs]) := by
  intro i hi
  simp only [List.length_append, List.length_singleton] at hi
  rw [rw_app, rw_app]
  by_cases e : i < zss.length
  · rw [if_pos e, if_pos (by omega)]; exact hr i e
  · obtain rfl : i = zss.length := by omega
    rw [if_neg e, if_pos rfl]
    refine ⟨hl, ?_⟩
    rcases Nat.eq_zero_or_pos zss.length with q | q
    · rw [q] at hz ⊢
      exact fun j hj => ⟨(hz j hj).1, (hz j hj).2.1, fun h => by omega⟩
    · rw [if_pos (by omega)]; exact hz
theorem HRows.heap {a b h : Int} {zss : List (List Int)} (hr : HRows b h zss) (ha : 1 ≤ a ∧ a ≤ 3) (hb : 1 ≤ b ∧ b ≤ 3) (hh : 1 ≤ h ∧ h ≤ 3) (hl : (zss.length : Int) = a) : heapB a b h zss = true :=
  (heapB_iff _ _ _ _).2 ⟨⟨ha, hb, hh⟩, hl, fun i hi => (hrowB_iff _ _ _ _ _).2 ⟨(hr i hi).1, fun j hj => ((hr i hi).2 j hj).1, fun j hj => ((hr i hi).2 j hj).2⟩⟩
def HeapDraw (w : World) (q : Nat) (v : Value) (n : Nat) (e : Ending) (w' : World) : Prop :=
  ∃ (a b h : Int) (zss : List (List Int)) (u : Value) (hi : Nat), heapB a b h zss = true ∧ e = .returned (.tuple #[.int .i64 a, .int .i64 b, .int .i64 h, u]) ∧ MC w.heap.size w' hi u zss ∧ Cur w' q v n ∧ w.grownBy w' (some q)

set_option maxRecDepth 100000 in
set_option maxHeartbeats 8000000 in
theorem l21Heap_any (q n : Nat) (v : Value) (w : World) (hc : Cur w q v n) :
    Calls Try.prog 66 #[.pointer (some ⟨q, 0, none⟩)] w (HeapDraw w q v n) := by
  have hq := hc.lt
  go_enter Try.func66, Try.ntmps66
  go_wp2_with fail
  refine (below_any q n v 3 w hc (by omega) (by omega)).mono ?_
  rintro e w1 ⟨a, ⟨a0, a1⟩, rfl, hc1, hg1⟩
  go_wp2_with fail
  refine (below_any q n v 3 w1 hc1 (by omega) (by omega)).mono ?_
  rintro e w2 ⟨b, ⟨b0, b1⟩, rfl, hc2, hg2⟩
  have hg2 := hg1.trans hg2
  go_wp2_with fail
  refine (below_any q n v 3 w2 hc2 (by omega) (by omega)).mono ?_
  rintro e w3 ⟨ch, ⟨h0, h1⟩, rfl, hc3, hg3⟩
  have hg3 := hg2.trans hg3
  obtain ⟨a, rfl⟩ := Int.eq_ofNat_of_zero_le a0
  obtain ⟨b, rfl⟩ := Int.eq_ofNat_of_zero_le b0
  have HS0 : Hid (MC w.heap.size (w3.alloc (.cells #[] 58)) (w3.heap.size + 1) (.slice (some ⟨w3.heap.size, 0, none⟩) 0 0) []) := by
    have hm := MRel.start w3
    have hs := hg3.size
    refine ⟨?_, hm.2.2.1, by omega⟩
    obtain ⟨vs, p1, p2, p3⟩ := hm.1
    exact ⟨vs, World.ownsRow.mono_base p1 hs, fun i u hu => (p2 i u hu).mono hs, p3⟩
  have HC0 : Hid (Cur (w3.alloc (.cells #[] 58)) q v n) := hc3.grown (grownBy_alloc _ _ none) fun k e => by simp at e
  have HG0 : Hid (w.grownBy (w3.alloc (.cells #[] 58)) (some q)) := grownBy_more hg3 (grownBy_alloc _ _ none) fun k e => by simp at e
  clear hc1 hc2 hc3 hg1 hg2 hg3
  go_wp2_with fail
  go_loopw [9, 10] (fun u s wr => ∃ (i hi : Nat) (zss : List (List Int)), (i : Int) ≤ 1 + a ∧ s = .int .i64 i ∧ Hid (zss.length = i) ∧ Hid (HRows (1 + b) (1 + ch) zss) ∧ Hid (MC w.heap.size wr hi u zss) ∧ Hid (Cur wr q v n) ∧ Hid (w.grownBy wr (some q))) (fun _ s _ => 1 + a - (intOf s).toNat)
  case atStart => exact ⟨0, _, [], by omega, rfl, rfl, fun i hi => by simp at hi, HS0, HC0, HG0⟩
  case round =>
    obtain ⟨i, hi, zss, hia, rfl, HL, HH, HM, HC, HG⟩ := hrel
    clear HS0 HC0 HG0
    by_cases hlt : (i : Int) < 1 + a
    · have ht : decide ((i : Int) < 1 + (a : Int)) = true := by simp only [decide_eq_true_eq]; exact hlt
      have HR0 : Hid (MC w.heap.size (wr.alloc (.cells #[] 3)) hi u9 zss ∧ OwnI (wr.alloc (.cells #[] 3)) hi (.slice (some ⟨wr.heap.size, 0, none⟩) 0 0) []) :=
        ⟨HM.out.young (grownBy_alloc _ _ none) (fun k e => by simp at e), ownF_int.1 (OwnF.empty (E := elInt) HM.out.hi_)⟩
      have HC1 : Hid (Cur (wr.alloc (.cells #[] 3)) q v n) := HC.out.grown (grownBy_alloc _ _ none) fun k e => by simp at e
      have HG1 : Hid (w.grownBy (wr.alloc (.cells #[] 3)) (some q)) := grownBy_more HG.out (grownBy_alloc _ _ none) fun k e => by simp at e
      clear HM HC HG
      go_wp2_with fail
      go_loopw [11, 12] (fun x s wr2 => ∃ (k : Nat) (zs : List Int), (k : Int) ≤ 1 + b ∧ s = .int .i64 k ∧ Hid (zs.length = k) ∧ Hid (HRow (1 + ch) (rw' zss (i - 1)) i zs) ∧ Hid (MC w.heap.size wr2 hi u9 zss ∧ OwnI wr2 hi x zs) ∧ Hid (Cur wr2 q v n) ∧ Hid (w.grownBy wr2 (some q))) (fun _ s _ => 1 + b - (intOf s).toNat)
      case atStart => exact ⟨0, [], by omega, rfl, rfl, fun j hj => by simp at hj, HR0, HC1, HG1⟩
      case round =>
        obtain ⟨k, zs, hkb, rfl, HZL, HZR, HO, HC2, HG2⟩ := hrel
        clear HR0 HC1 HG1
        by_cases hlk : (k : Int) < 1 + b
        · have htk : decide ((k : Int) < 1 + (b : Int)) = true := by simp only [decide_eq_true_eq]; exact hlk
          obtain ⟨Ax, cx, hx, x1, x2, x3⟩ := HO.out.2.rd
          obtain ⟨Ao, co, ho, o1, o2, o3⟩ := HO.out.1.own.rd.open_
          rw [HZL.out] at hx x1
          rw [HL.out] at ho o1
          have HRX := Lib.hid x3
          have G3 := Lib.hid o3
          have HO' := HO.out
          rw [hx, ho] at HO'
          have HO2 := Lib.hid HO'
          subst hx ho
          unfold maxLen at x2 o2
          clear x3 o3 HO' HO
          obtain ⟨mp, HMP⟩ : ∃ y, Hid (el zs (k - 1) = y) := ⟨_, rfl⟩
          obtain ⟨mu, HMU⟩ : ∃ y, Hid (el (rw' zss (i - 1)) k = y) := ⟨_, rfl⟩
          have fp : 0 < k → 0 ≤ mp ∧ mp ≤ 1 + ch := fun hk => by
            have := (HZR.out (k - 1) (by have := HZL.out; omega)).1
            rw [HMP.out] at this; exact this
          have fu : 0 < i → 0 ≤ mu ∧ mu ≤ 1 + ch := fun hi0 => by
            have hh := HH.out (i - 1) (by have := HL.out; omega)
            have := (hh.2 k (by omega)).1
            rw [HMU.out] at this; exact this
          have FP := Lib.hid fp; have FU := Lib.hid fu
          rcases Nat.eq_zero_or_pos k with hk0 | hk0 <;> rcases Nat.eq_zero_or_pos i with hi0 | hi0
          · have t1 : decide ((k : Int) > 0) = false := by simp only [decide_eq_false_iff_not]; omega
            have t1' : decide (0 < k) = false := by simp; omega
            have t2 : decide ((i : Int) > 0) = false := by simp only [decide_eq_false_iff_not]; omega
            have t2' : decide (0 < i) = false := by simp; omega
            have HK0 := Lib.hid hk0; have HI0 := Lib.hid hi0
            clear hk0 hi0
            go_wp2_with fail
            all_goals
              have hk0 := HK0.out; have hi0 := HI0.out
              have fp := FP.out; have fu := FU.out
              refine (below_any q n v _ wr HC2.out ?_ ?_).mono ?_
              · omega
              · omega
              rintro e w4 ⟨r, ⟨r0, r1⟩, rfl, hc4, hg4⟩
              have hq' : ∀ k', some q = some k' → k' < w.heap.size := fun k' hk' => by obtain rfl := Option.some.inj hk'; exact hq
              have HM4 := Lib.hid (HO2.out.1.old hg4 hq')
              have HR4 := Lib.hid (HO2.out.2.grown hg4 fun k' hk' e => by have := (HO2.out.2.lt k' hk').1; have := HO2.out.1.lo_; have := hq' k' e.symm; omega)
              have HG4 := Lib.hid (HG2.out.trans hg4)
              have HC4 := Lib.hid hc4
              have HA := Lib.hid (acc0I HR4.out HM4.out.hi_)
              clear hc4 hg4 fp fu HO2 HC2 HG2 hq'
              first
                | (have HZ : Hid (0 ≤ (1 + ch) - r ∧ (1 + ch) - r ≤ 1 + ch ∧ (0 < k → (1 + ch) - r ≤ mp) ∧ (0 < i → (1 + ch) - r ≤ mu)) := by (unfold Hid; omega)
                   clear hk0 hi0
                   go_wp2_with (at_builtin; refine wpList_push okInt rfl _ _ rfl HA.out rfl ((1 + ch) - r) _ rfl _ rfl (by simp) (by have := HZL.out; omega) ?_; intro u5 w5 HA5 HG5; obtain ⟨A5, c5, hu5, _⟩ := HA5.out.1.rd okInt; rw [List.length_append, List.length_singleton, HZL.out] at hu5; rw [hu5] at HA5 HG5; rw [hu5]; clear hu5))
                | (have HZ : Hid (0 ≤ mp - r ∧ mp - r ≤ 1 + ch ∧ (0 < k → mp - r ≤ mp) ∧ (0 < i → mp - r ≤ mu)) := by (unfold Hid; omega)
                   clear hk0 hi0
                   go_wp2_with (at_builtin; refine wpList_push okInt rfl _ _ rfl HA.out rfl (mp - r) _ rfl _ rfl (by simp) (by have := HZL.out; omega) ?_; intro u5 w5 HA5 HG5; obtain ⟨A5, c5, hu5, _⟩ := HA5.out.1.rd okInt; rw [List.length_append, List.length_singleton, HZL.out] at hu5; rw [hu5] at HA5 HG5; rw [hu5]; clear hu5))
                | (have HZ : Hid (0 ≤ mu - r ∧ mu - r ≤ 1 + ch ∧ (0 < k → mu - r ≤ mp) ∧ (0 < i → mu - r ≤ mu)) := by (unfold Hid; omega)
                   clear hk0 hi0
                   go_wp2_with (at_builtin; refine wpList_push okInt rfl _ _ rfl HA.out rfl (mu - r) _ rfl _ rfl (by simp) (by have := HZL.out; omega) ?_; intro u5 w5 HA5 HG5; obtain ⟨A5, c5, hu5, _⟩ := HA5.out.1.rd okInt; rw [List.length_append, List.length_singleton, HZL.out] at hu5; rw [hu5] at HA5 HG5; rw [hu5]; clear hu5))
              have hyo := HR4.out.lt
              go_roundw
              case rel =>
                refine ⟨k + 1, _, by omega, by go_num, ?_, ?_, ⟨?_, ownF_int.1 HA5.out.1⟩, ?_, ?_⟩
                · unfold Hid; rw [List.length_append, List.length_singleton, HZL.out]
                · refine HZR.out.push HZ.out.1 HZ.out.2.1 (fun h9 => ?_) (fun h9 => ?_)
                  · rw [HZL.out, HMP.out]; exact HZ.out.2.2.1 (by have := HZL.out; omega)
                  · rw [HZL.out, HMU.out]; exact HZ.out.2.2.2 h9
                · exact HM4.out.young HG5.out.1 (fun k' hk' => (hyo k' hk').1)
                · exact HC4.out.grown HG5.out.1 fun k' hk' => by have := hyo k' hk'; have := HM4.out.lo_; omega
                · exact grownBy_more HG4.out HG5.out.1 fun k' hk' => by have := hyo k' hk'; have := HM4.out.lo_; omega
              case measure => simp [intOf]; omega
          · have t1 : decide ((k : Int) > 0) = false := by simp only [decide_eq_false_iff_not]; omega
            have t1' : decide (0 < k) = false := by simp; omega
            have t2 : decide ((i : Int) > 0) = true := by simp only [decide_eq_true_eq]; omega
            have t2' : decide (0 < i) = true := by simp; omega
            obtain ⟨ad2, u2, rfl, had2, hc2, A2, c2, rfl, p1, p2, p3⟩ := G3.out (i - 1) (by have := HL.out; omega)
            have hrl := (HH.out (i - 1) (by have := HL.out; omega)).1
            obtain ⟨ad3, rfl, had3, hcu⟩ := p3.int (k := k) (by omega)
            rw [← el_get _ _ (by omega), HMU.out] at hcu
            generalize hrn : (rw' zss (i - 1)).length = rn at *
            unfold maxLen at p2
            have f1 : 0 ≤ (i : Int) - 1 := by omega
            have f2 : (i : Int) - 1 < (i : Int) := by omega
            have f3 : ((i : Int) - 1).toNat = i - 1 := by omega
            have f4 : (k : Int) < (rn : Int) := by omega
            clear p3 hrl hrn
            have HK0 := Lib.hid hk0; have HI0 := Lib.hid hi0
            clear hk0 hi0
            go_wp2_with fail
            all_goals
              have hk0 := HK0.out; have hi0 := HI0.out
              have fp := FP.out; have fu := FU.out
              refine (below_any q n v _ wr HC2.out ?_ ?_).mono ?_
              · omega
              · omega
              rintro e w4 ⟨r, ⟨r0, r1⟩, rfl, hc4, hg4⟩
              have hq' : ∀ k', some q = some k' → k' < w.heap.size := fun k' hk' => by obtain rfl := Option.some.inj hk'; exact hq
              have HM4 := Lib.hid (HO2.out.1.old hg4 hq')
              have HR4 := Lib.hid (HO2.out.2.grown hg4 fun k' hk' e => by have := (HO2.out.2.lt k' hk').1; have := HO2.out.1.lo_; have := hq' k' e.symm; omega)
              have HG4 := Lib.hid (HG2.out.trans hg4)
              have HC4 := Lib.hid hc4
              have HA := Lib.hid (acc0I HR4.out HM4.out.hi_)
              clear hc4 hg4 fp fu HO2 HC2 HG2 hq'
              first
                | (have HZ : Hid (0 ≤ (1 + ch) - r ∧ (1 + ch) - r ≤ 1 + ch ∧ (0 < k → (1 + ch) - r ≤ mp) ∧ (0 < i → (1 + ch) - r ≤ mu)) := by (unfold Hid; omega)
                   clear hk0 hi0
                   go_wp2_with (at_builtin; refine wpList_push okInt rfl _ _ rfl HA.out rfl ((1 + ch) - r) _ rfl _ rfl (by simp) (by have := HZL.out; omega) ?_; intro u5 w5 HA5 HG5; obtain ⟨A5, c5, hu5, _⟩ := HA5.out.1.rd okInt; rw [List.length_append, List.length_singleton, HZL.out] at hu5; rw [hu5] at HA5 HG5; rw [hu5]; clear hu5))
                | (have HZ : Hid (0 ≤ mp - r ∧ mp - r ≤ 1 + ch ∧ (0 < k → mp - r ≤ mp) ∧ (0 < i → mp - r ≤ mu)) := by (unfold Hid; omega)
                   clear hk0 hi0
                   go_wp2_with (at_builtin; refine wpList_push okInt rfl _ _ rfl HA.out rfl (mp - r) _ rfl _ rfl (by simp) (by have := HZL.out; omega) ?_; intro u5 w5 HA5 HG5; obtain ⟨A5, c5, hu5, _⟩ := HA5.out.1.rd okInt; rw [List.length_append, List.length_singleton, HZL.out] at hu5; rw [hu5] at HA5 HG5; rw [hu5]; clear hu5))
                | (have HZ : Hid (0 ≤ mu - r ∧ mu - r ≤ 1 + ch ∧ (0 < k → mu - r ≤ mp) ∧ (0 < i → mu - r ≤ mu)) := by (unfold Hid; omega)
                   clear hk0 hi0
                   go_wp2_with (at_builtin; refine wpList_push okInt rfl _ _ rfl HA.out rfl (mu - r) _ rfl _ rfl (by simp) (by have := HZL.out; omega) ?_; intro u5 w5 HA5 HG5; obtain ⟨A5, c5, hu5, _⟩ := HA5.out.1.rd okInt; rw [List.length_append, List.length_singleton, HZL.out] at hu5; rw [hu5] at HA5 HG5; rw [hu5]; clear hu5))
              have hyo := HR4.out.lt
              go_roundw
              case rel =>
                refine ⟨k + 1, _, by omega, by go_num, ?_, ?_, ⟨?_, ownF_int.1 HA5.out.1⟩, ?_, ?_⟩
                · unfold Hid; rw [List.length_append, List.length_singleton, HZL.out]
                · refine HZR.out.push HZ.out.1 HZ.out.2.1 (fun h9 => ?_) (fun h9 => ?_)
                  · rw [HZL.out, HMP.out]; exact HZ.out.2.2.1 (by have := HZL.out; omega)
                  · rw [HZL.out, HMU.out]; exact HZ.out.2.2.2 h9
                · exact HM4.out.young HG5.out.1 (fun k' hk' => (hyo k' hk').1)
                · exact HC4.out.grown HG5.out.1 fun k' hk' => by have := hyo k' hk'; have := HM4.out.lo_; omega
                · exact grownBy_more HG4.out HG5.out.1 fun k' hk' => by have := hyo k' hk'; have := HM4.out.lo_; omega
              case measure => simp [intOf]; omega
          · have t1 : decide ((k : Int) > 0) = true := by simp only [decide_eq_true_eq]; omega
            have t1' : decide (0 < k) = true := by simp; omega
            obtain ⟨ad, rfl, had, hcp⟩ := HRX.out.int (k := k - 1) (by have := HZL.out; omega)
            rw [← el_get _ _ (by have := HZL.out; omega), HMP.out] at hcp
            have e1 : 0 ≤ (k : Int) - 1 := by omega
            have e2 : (k : Int) - 1 < (k : Int) := by omega
            have e3 : ((k : Int) - 1).toNat = k - 1 := by omega
            have t2 : decide ((i : Int) > 0) = false := by simp only [decide_eq_false_iff_not]; omega
            have t2' : decide (0 < i) = false := by simp; omega
            have HK0 := Lib.hid hk0; have HI0 := Lib.hid hi0
            clear hk0 hi0
            go_wp2_with fail
            all_goals
              have hk0 := HK0.out; have hi0 := HI0.out
              have fp := FP.out; have fu := FU.out
              refine (below_any q n v _ wr HC2.out ?_ ?_).mono ?_
              · omega
              · omega
              rintro e w4 ⟨r, ⟨r0, r1⟩, rfl, hc4, hg4⟩
              have hq' : ∀ k', some q = some k' → k' < w.heap.size := fun k' hk' => by obtain rfl := Option.some.inj hk'; exact hq
              have HM4 := Lib.hid (HO2.out.1.old hg4 hq')
              have HR4 := Lib.hid (HO2.out.2.grown hg4 fun k' hk' e => by have := (HO2.out.2.lt k' hk').1; have := HO2.out.1.lo_; have := hq' k' e.symm; omega)
              have HG4 := Lib.hid (HG2.out.trans hg4)
              have HC4 := Lib.hid hc4
              have HA := Lib.hid (acc0I HR4.out HM4.out.hi_)
              clear hc4 hg4 fp fu HO2 HC2 HG2 hq'
              first
                | (have HZ : Hid (0 ≤ (1 + ch) - r ∧ (1 + ch) - r ≤ 1 + ch ∧ (0 < k → (1 + ch) - r ≤ mp) ∧ (0 < i → (1 + ch) - r ≤ mu)) := by (unfold Hid; omega)
                   clear hk0 hi0
                   go_wp2_with (at_builtin; refine wpList_push okInt rfl _ _ rfl HA.out rfl ((1 + ch) - r) _ rfl _ rfl (by simp) (by have := HZL.out; omega) ?_; intro u5 w5 HA5 HG5; obtain ⟨A5, c5, hu5, _⟩ := HA5.out.1.rd okInt; rw [List.length_append, List.length_singleton, HZL.out] at hu5; rw [hu5] at HA5 HG5; rw [hu5]; clear hu5))
                | (have HZ : Hid (0 ≤ mp - r ∧ mp - r ≤ 1 + ch ∧ (0 < k → mp - r ≤ mp) ∧ (0 < i → mp - r ≤ mu)) := by (unfold Hid; omega)
                   clear hk0 hi0
                   go_wp2_with (at_builtin; refine wpList_push okInt rfl _ _ rfl HA.out rfl (mp - r) _ rfl _ rfl (by simp) (by have := HZL.out; omega) ?_; intro u5 w5 HA5 HG5; obtain ⟨A5, c5, hu5, _⟩ := HA5.out.1.rd okInt; rw [List.length_append, List.length_singleton, HZL.out] at hu5; rw [hu5] at HA5 HG5; rw [hu5]; clear hu5))
                | (have HZ : Hid (0 ≤ mu - r ∧ mu - r ≤ 1 + ch ∧ (0 < k → mu - r ≤ mp) ∧ (0 < i → mu - r ≤ mu)) := by (unfold Hid; omega)
                   clear hk0 hi0
                   go_wp2_with (at_builtin; refine wpList_push okInt rfl _ _ rfl HA.out rfl (mu - r) _ rfl _ rfl (by simp) (by have := HZL.out; omega) ?_; intro u5 w5 HA5 HG5; obtain ⟨A5, c5, hu5, _⟩ := HA5.out.1.rd okInt; rw [List.length_append, List.length_singleton, HZL.out] at hu5; rw [hu5] at HA5 HG5; rw [hu5]; clear hu5))
              have hyo := HR4.out.lt
              go_roundw
              case rel =>
                refine ⟨k + 1, _, by omega, by go_num, ?_, ?_, ⟨?_, ownF_int.1 HA5.out.1⟩, ?_, ?_⟩
                · unfold Hid; rw [List.length_append, List.length_singleton, HZL.out]
                · refine HZR.out.push HZ.out.1 HZ.out.2.1 (fun h9 => ?_) (fun h9 => ?_)
                  · rw [HZL.out, HMP.out]; exact HZ.out.2.2.1 (by have := HZL.out; omega)
                  · rw [HZL.out, HMU.out]; exact HZ.out.2.2.2 h9
                · exact HM4.out.young HG5.out.1 (fun k' hk' => (hyo k' hk').1)
                · exact HC4.out.grown HG5.out.1 fun k' hk' => by have := hyo k' hk'; have := HM4.out.lo_; omega
                · exact grownBy_more HG4.out HG5.out.1 fun k' hk' => by have := hyo k' hk'; have := HM4.out.lo_; omega
              case measure => simp [intOf]; omega
          · have t1 : decide ((k : Int) > 0) = true := by simp only [decide_eq_true_eq]; omega
            have t1' : decide (0 < k) = true := by simp; omega
            obtain ⟨ad, rfl, had, hcp⟩ := HRX.out.int (k := k - 1) (by have := HZL.out; omega)
            rw [← el_get _ _ (by have := HZL.out; omega), HMP.out] at hcp
            have e1 : 0 ≤ (k : Int) - 1 := by omega
            have e2 : (k : Int) - 1 < (k : Int) := by omega
            have e3 : ((k : Int) - 1).toNat = k - 1 := by omega
            have t2 : decide ((i : Int) > 0) = true := by simp only [decide_eq_true_eq]; omega
            have t2' : decide (0 < i) = true := by simp; omega
            obtain ⟨ad2, u2, rfl, had2, hc2, A2, c2, rfl, p1, p2, p3⟩ := G3.out (i - 1) (by have := HL.out; omega)
            have hrl := (HH.out (i - 1) (by have := HL.out; omega)).1
            obtain ⟨ad3, rfl, had3, hcu⟩ := p3.int (k := k) (by omega)
            rw [← el_get _ _ (by omega), HMU.out] at hcu
            generalize hrn : (rw' zss (i - 1)).length = rn at *
            unfold maxLen at p2
            have f1 : 0 ≤ (i : Int) - 1 := by omega
            have f2 : (i : Int) - 1 < (i : Int) := by omega
            have f3 : ((i : Int) - 1).toNat = i - 1 := by omega
            have f4 : (k : Int) < (rn : Int) := by omega
            clear p3 hrl hrn
            have HK0 := Lib.hid hk0; have HI0 := Lib.hid hi0
            clear hk0 hi0
            go_wp2_with fail
            all_goals
              have hk0 := HK0.out; have hi0 := HI0.out
              have fp := FP.out; have fu := FU.out
              refine (below_any q n v _ wr HC2.out ?_ ?_).mono ?_
              · omega
              · omega
              rintro e w4 ⟨r, ⟨r0, r1⟩, rfl, hc4, hg4⟩
              have hq' : ∀ k', some q = some k' → k' < w.heap.size := fun k' hk' => by obtain rfl := Option.some.inj hk'; exact hq
              have HM4 := Lib.hid (HO2.out.1.old hg4 hq')
              have HR4 := Lib.hid (HO2.out.2.grown hg4 fun k' hk' e => by have := (HO2.out.2.lt k' hk').1; have := HO2.out.1.lo_; have := hq' k' e.symm; omega)
              have HG4 := Lib.hid (HG2.out.trans hg4)
              have HC4 := Lib.hid hc4
              have HA := Lib.hid (acc0I HR4.out HM4.out.hi_)
              clear hc4 hg4 fp fu HO2 HC2 HG2 hq'
              first
                | (have HZ : Hid (0 ≤ (1 + ch) - r ∧ (1 + ch) - r ≤ 1 + ch ∧ (0 < k → (1 + ch) - r ≤ mp) ∧ (0 < i → (1 + ch) - r ≤ mu)) := by (unfold Hid; omega)
                   clear hk0 hi0
                   go_wp2_with (at_builtin; refine wpList_push okInt rfl _ _ rfl HA.out rfl ((1 + ch) - r) _ rfl _ rfl (by simp) (by have := HZL.out; omega) ?_; intro u5 w5 HA5 HG5; obtain ⟨A5, c5, hu5, _⟩ := HA5.out.1.rd okInt; rw [List.length_append, List.length_singleton, HZL.out] at hu5; rw [hu5] at HA5 HG5; rw [hu5]; clear hu5))
                | (have HZ : Hid (0 ≤ mp - r ∧ mp - r ≤ 1 + ch ∧ (0 < k → mp - r ≤ mp) ∧ (0 < i → mp - r ≤ mu)) := by (unfold Hid; omega)
                   clear hk0 hi0
                   go_wp2_with (at_builtin; refine wpList_push okInt rfl _ _ rfl HA.out rfl (mp - r) _ rfl _ rfl (by simp) (by have := HZL.out; omega) ?_; intro u5 w5 HA5 HG5; obtain ⟨A5, c5, hu5, _⟩ := HA5.out.1.rd okInt; rw [List.length_append, List.length_singleton, HZL.out] at hu5; rw [hu5] at HA5 HG5; rw [hu5]; clear hu5))
                | (have HZ : Hid (0 ≤ mu - r ∧ mu - r ≤ 1 + ch ∧ (0 < k → mu - r ≤ mp) ∧ (0 < i → mu - r ≤ mu)) := by (unfold Hid; omega)
                   clear hk0 hi0
                   go_wp2_with (at_builtin; refine wpList_push okInt rfl _ _ rfl HA.out rfl (mu - r) _ rfl _ rfl (by simp) (by have := HZL.out; omega) ?_; intro u5 w5 HA5 HG5; obtain ⟨A5, c5, hu5, _⟩ := HA5.out.1.rd okInt; rw [List.length_append, List.length_singleton, HZL.out] at hu5; rw [hu5] at HA5 HG5; rw [hu5]; clear hu5))
              have hyo := HR4.out.lt
              go_roundw
              case rel =>
                refine ⟨k + 1, _, by omega, by go_num, ?_, ?_, ⟨?_, ownF_int.1 HA5.out.1⟩, ?_, ?_⟩
                · unfold Hid; rw [List.length_append, List.length_singleton, HZL.out]
                · refine HZR.out.push HZ.out.1 HZ.out.2.1 (fun h9 => ?_) (fun h9 => ?_)
                  · rw [HZL.out, HMP.out]; exact HZ.out.2.2.1 (by have := HZL.out; omega)
                  · rw [HZL.out, HMU.out]; exact HZ.out.2.2.2 h9
                · exact HM4.out.young HG5.out.1 (fun k' hk' => (hyo k' hk').1)
                · exact HC4.out.grown HG5.out.1 fun k' hk' => by have := hyo k' hk'; have := HM4.out.lo_; omega
                · exact grownBy_more HG4.out HG5.out.1 fun k' hk' => by have := hyo k' hk'; have := HM4.out.lo_; omega
              case measure => simp [intOf]; omega
        · have htk : decide ((k : Int) < 1 + (b : Int)) = false := by simp only [decide_eq_false_iff_not]; exact hlk
          have HRR : Hid (RowRel (wlo wr w.heap.size) wr hi u9 zss u11 zs) := ⟨HO.out.1.rel, HO.out.2⟩
          obtain ⟨Ax, cx, hx, _⟩ := HO.out.2.rd
          have HKB : Hid ((zs.length : Int) = 1 + b) := by have := HZL.out; unfold Hid; omega
          have HSZ : Hid (w.heap.size ≤ wr.heap.size) := HG2.out.size
          have HZL2 : Hid ((zss ++ [zs]).length = i + 1) := by unfold Hid; rw [List.length_append, List.length_singleton, HL.out]
          have HH2 := Lib.hid (HH.out.push HKB.out (by rw [HL.out]; exact HZR.out))
          rw [hx] at HRR
          subst hx
          go_wp2_with (at_builtin; refine wpList_pushRow rfl _ _ rfl HRR.out rfl _ rfl (by simp) (by have := HL.out; omega) ?_; intro v5 w5 HM5 HB5)
          have hb5 : Below w.heap.size wr w5 := by have := HB5.out; rwa [wlo_size _ _ HSZ.out] at this
          have HM6 := Lib.hid (MC.of HM5.out HSZ.out)
          have HC6 := Lib.hid (HC2.out.low hb5 hq)
          have HG6 := Lib.hid (grownBy_low HG2.out hb5)
          clear hb5 HM5 HB5
          go_roundw
          case rel => exact ⟨i + 1, _, _, by omega, by go_num, HZL2, HH2, HM6, HC6, HG6⟩
          case measure => simp [intOf]; omega
    · have ht : decide ((i : Int) < 1 + (a : Int)) = false := by simp only [decide_eq_false_iff_not]; exact hlt
      go_wp2_with fail
      refine bodyPost_ret (v := .tuple #[.int .i64 (1 + a), .int .i64 (1 + b), .int .i64 (1 + ch), u9]) (by simp [results, Try.results66, go_sem]) rfl ?_
      exact ⟨_, _, _, zss, _, hi, HH.out.heap (by omega) (by omega) (by omega) (by have := HL.out; omega), rfl, HM.out, HC.out, HG.out⟩

set_option maxHeartbeats 4000000 in
theorem DrawHeap_any (u : Value) (n B : Nat) (w : World) (hu : RdU w B u n) (hB : B ≤ w.heap.size) :
    Calls Try.prog 16 #[u] w fun e w' => ∃ (a b h : Int) (zss : List (List Int)) (v : Value) (hi : Nat), heapB a b h zss = true ∧ e = .returned (.tuple #[.int .i64 a, .int .i64 b, .int .i64 h, v]) ∧ OwnM w' w.heap.size hi v zss ∧ hi ≤ w'.heap.size ∧ Below w.heap.size w w' := by
  go_enter Try.func16, Try.ntmps16
  go_wp2_with fail
  refine (new_any u n B w hu hB).mono ?_
  rintro e w1 ⟨rfl, hc, hb⟩
  go_wp2_with fail
  refine (l21Heap_any _ n u _ hc).mono ?_
  rintro e w2 ⟨a, b, ch, zss, v, hi, hh, rfl, hm, _, hg⟩
  have hs := hb.size
  have HB2 := Lib.hid (below_young hb hg (Nat.le_refl _))
  have HM := Lib.hid hm
  have HO : Hid (OwnM w2 w.heap.size hi v zss) := by
    obtain ⟨vs, p1, p2, p3⟩ := hm.own
    exact ⟨vs, World.ownsRow.mono_base p1 hs, fun i u hu => (p2 i u hu).mono hs, p3⟩
  clear hm
  go_wp2_with fail
  refine bodyPost_ret (v := .tuple #[.int .i64 a, .int .i64 b, .int .i64 ch, v]) (by simp [results, Try.results16, go_sem]) rfl ?_
  exact ⟨_, _, _, zss, _, hi, hh, rfl, HO.out, HM.out.hi_, HB2.out⟩
end Go.Proofs.Ytgehollikdbapaa
