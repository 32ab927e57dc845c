/- Contracts of TreeFloor of the program and of the reference. -/
import Derived.Test.YtpejphholomenaaOwnS
import Derived.Deep.RegionHeld3
import Derived.StillTailTactics
import Derived.Deep.RegionLaw
import Derived.BigRegion
namespace Go.Proofs.Ytpejphholomenaa
open Go.RowKit

theorem OwnI.mono0 {w : World} {lo lo' : Nat} {v : Value} {zs : List Int} (h : OwnI w lo v zs) (hl : lo' ≤ lo) : OwnI w lo' v zs := by
  refine ⟨h.1, ?_⟩
  rcases h.2 with h2 | ⟨g, cap, cur, e, hb, r⟩
  · exact .inl h2
  · exact .inr ⟨g, cap, cur, e, by omega, r⟩
/-- The rows of the floor of trees. -/
def rowC (a : Int) : Int := 2 ^ (2 * a.toNat - 1) - 1
def floorRows (c : Int) (n : Nat) : List Int := (c - 1) :: List.replicate (2 * n - 2) c

/-- Behind k rounds: block H holds the result's nil, block H + 2 the value of the row, which has k elements. -/
def FloorRel (w wr : World) (v : Value) (zs : List Int) : Prop :=
  wr.rowIs w.heap.size 97 1 (fun _ => .slice none 0 0) ∧ wr.rowIs (w.heap.size + 2) 97 1 (fun _ => v) ∧ OwnI wr (w.heap.size + 1) v zs ∧ v.ownBlock ≠ some (w.heap.size + 2) ∧
    w.heap.size + 3 ≤ wr.heap.size ∧ Below w.heap.size w wr
theorem FloorRel.step {w wr w1 : World} {v : Value} {zs : List Int} {c : Int} {g cap : Nat} (h : FloorRel w wr v zs)
    (hown : w1.ownsRow (w.heap.size + 1) 3 1 (.slice (some ⟨g, 0, none⟩) (zs.length + 1) cap) (zs.length + 1) (zs.map (Value.int .i64) ++ [.int .i64 c]))
    (hg : (wr.alloc (.cells #[.int .i64 c] 3)).grownBy w1 v.ownBlock) (hat : v.ownBlock = some g ∨ g = wr.heap.size + 1) :
    FloorRel w (w1.setCell ⟨w.heap.size + 2, 0, none⟩ (.slice (some ⟨g, 0, none⟩) (zs.length + 1) cap)) (.slice (some ⟨g, 0, none⟩) (zs.length + 1) cap) (zs ++ [c]) := by
  obtain ⟨h1, h2, h3, h4, h5, h6⟩ := h
  have hsz : wr.heap.size + 1 ≤ w1.heap.size := by simpa using hg.size
  have hne : g ≠ w.heap.size + 2 := by
    rcases hat with e | e
    · rintro rfl; exact h4 e
    · omega
  have hlow : ∀ k, v.ownBlock = some k → w.heap.size + 1 ≤ k := fun k hk => (h3.lt k hk).1
  have hb0 : w1.heap[w.heap.size]? = wr.heap[w.heap.size]? :=
    (hg.block _ (by simp; omega) (fun e => by have := hlow _ e.symm; omega)).trans (Below.heap_alloc _ _ _ (by omega))
  have hb2 : w1.heap[w.heap.size + 2]? = wr.heap[w.heap.size + 2]? :=
    (hg.block _ (by simp; omega) (fun e => h4 e.symm)).trans (Below.heap_alloc _ _ _ (by omega))
  refine ⟨(h1.of_block hb0).setOther (by simp) _, ((h2.of_block hb2).set 0 _).congr fun i hi => by simp [show i = 0 by omega], ?_, by simp [Value.ownBlock, hne], by simp; omega, ?_⟩
  · have e : (zs ++ [c]).length = zs.length + 1 := by simp
    have e2 : (zs ++ [c]).map (Value.int .i64) = zs.map (Value.int .i64) ++ [.int .i64 c] := by simp
    unfold OwnI
    rw [e, e2]
    exact Go.ownsRow_setCell_other hown (by simp [Value.ownBlock, hne]) _
  · exact ((h6.alloc (by omega) _).grown hg (by simp; omega) (fun k hk => by have := hlow k hk; omega)).setCell (by simp) _

theorem row_one (w : World) (v : Value) (t : TypeId) : (w.alloc (.cells #[v] t)).rowIs w.heap.size t 1 (fun _ => v) :=
  World.rowIs_alloc w #[v] t (fun _ => v) (fun i hi => by
    have h : i = 0 := by simpa using hi
    subst h
    rfl)
theorem floor_start (w : World) : FloorRel w (((w.alloc (.cells #[.slice none 0 0] 97)).alloc (.cells #[] 3)).alloc (.cells #[.slice (some ⟨w.heap.size + 1, 0, none⟩) 0 0] 97)) (.slice (some ⟨w.heap.size + 1, 0, none⟩) 0 0) [] := by
  have a1 := row_one w (.slice none 0 0) 97
  have a2 := World.ownsRow_lit (e := 3) (size := 1) (base := w.heap.size + 1) (w.alloc (.cells #[.slice none 0 0] 97)) #[] 0 (by simp) (by simp [maxLen]) (by simp)
  have a3 := row_one ((w.alloc (.cells #[.slice none 0 0] 97)).alloc (.cells #[] 3)) (.slice (some ⟨w.heap.size + 1, 0, none⟩) 0 0) 97
  refine ⟨(a1.alloc _).alloc _, by simpa using a3, ?_, by simp [Value.ownBlock], by simp, ((((Below.refl _ _).alloc (Nat.le_refl _) _).alloc (by simp) _).alloc (by simp; omega) _)⟩
  have := World.ownsRow.alloc a2 (.cells #[.slice (some ⟨w.heap.size + 1, 0, none⟩) 0 0] 97)
  simpa [OwnI] using this

/-- A region with a row of the call's own comes back. -/
def RetFloor (w : World) (zs : List Int) (e : Ending) (w' : World) : Prop := ∃ v, e = .returned (.agg #[v]) ∧ OwnI w' w.heap.size v zs ∧ Below w.heap.size w w'
theorem floor_end {w wr : World} {zs : List Int} {g cap : Nat} {c : Int} (h : FloorRel w wr (.slice (some ⟨g, 0, none⟩) zs.length cap) zs) :
    RetFloor w (zs.set 0 c) (.returned (.agg #[.slice (some ⟨g, 0, none⟩) zs.length cap])) ((wr.setCell ⟨g, 0, none⟩ (.int .i64 c)).setCell ⟨w.heap.size, 0, none⟩ (.slice (some ⟨g, 0, none⟩) zs.length cap)) := by
  obtain ⟨h1, h2, h3, h4, h5, h6⟩ := h
  have hlow := h3.lt g rfl
  refine ⟨_, rfl, ?_, (h6.setCell (by show w.heap.size ≤ g; omega) _).setCell (Nat.le_refl _) _⟩
  have hs := (World.ownsRow.stored h3 0 (.int .i64 c)).1
  have hs2 := Go.ownsRow_setCell_other hs (a := ⟨w.heap.size, 0, none⟩) (by simp [Value.ownBlock]; omega) (.slice (some ⟨g, 0, none⟩) zs.length cap)
  have e : (zs.set 0 c).length = zs.length := by simp
  have e2 : (zs.set 0 c).map (Value.int .i64) = (zs.map (Value.int .i64)).set 0 (.int .i64 c) := by rw [List.map_set]
  exact OwnI.mono0 (by unfold OwnI; rw [e, e2]; exact hs2) (by omega)

theorem floor_cell {w wr : World} {zs : List Int} {g cap : Nat} {u b : Value} (h : FloorRel w wr (.slice (some ⟨g, 0, none⟩) zs.length cap) zs) :
    ((wr.setCell ⟨g, 0, none⟩ u).setCell ⟨w.heap.size, 0, none⟩ b).cell? ⟨w.heap.size, 0, none⟩ = some b := by
  have hlow := h.2.2.1.lt g rfl
  have h1 := ((h.1.setOther (a := ⟨g, 0, none⟩) (by show w.heap.size ≠ g; omega) u).set 0 b).cell (i := 0) (by omega)
  simpa using h1
theorem floor_rows (c : Int) (n : Nat) (h : 1 ≤ n) (zs : List Int) (hz : zs = List.replicate zs.length c) (hl : zs.length = 2 * n - 1) : zs.set 0 (c - 1) = floorRows c n := by
  rw [hl] at hz
  rw [hz, show 2 * n - 1 = (2 * n - 2) + 1 from by omega, List.replicate_succ, List.set_cons_zero]
  rfl

set_option maxRecDepth 100000 in
set_option maxHeartbeats 2000000 in
theorem TreeFloor_at1 (n : Nat) (h1 : 1 ≤ n) (h4 : n ≤ 4) (w : World) :
    Calls Try.prog 91 #[.int .i64 1, .int .i64 n] w (RetFloor w (floorRows 1 n)) := by
  obtain ⟨i0, hi0, hz0, hz1, hz2⟩ := info_parts infoInt
  have hg : gridB 1 n = true := by
    simp only [gridB, Bool.and_eq_true, inB_iff]; omega
  have hw : ∀ z : Int, 0 ≤ z → z ≤ 300 → IntKind.i64.wrap z = z := fun z h1 h2 => IntWalk.i64_in z (by omega)
  have hs1 : ∀ W : World, Sem.run Try.prog (Op.shift BinOp.shl IntKind.i64 1 IntKind.i64 1) W = .ok (.int .i64 2) W := fun _ => by kernel_rfl
  have hs3 : ∀ W : World, Sem.run Try.prog (Op.shift BinOp.shl IntKind.i64 1 IntKind.i64 3) W = .ok (.int .i64 8) W := fun _ => by kernel_rfl
  have hs5 : ∀ W : World, Sem.run Try.prog (Op.shift BinOp.shl IntKind.i64 1 IntKind.i64 5) W = .ok (.int .i64 32) W := fun _ => by kernel_rfl
  have hs7 : ∀ W : World, Sem.run Try.prog (Op.shift BinOp.shl IntKind.i64 1 IntKind.i64 7) W = .ok (.int .i64 128) W := fun _ => by kernel_rfl
  go_enter Try.func91, Try.ntmps91
  go_wp2_with fail
  refine (GridOk_any _ _ _).mono ?_
  rintro e w1 ⟨rfl, rfl⟩
  go_wp2_with fail
  clear hg
  go_loopw [16] (fun s wr => ∃ (v : Value) (zs : List Int), zs.length ≤ 2 * n - 1 ∧ s = .int .i64 (zs.length : Int) ∧ FloorRel w wr v zs ∧ Hid (zs = List.replicate zs.length 1)) (fun s _ => 2 * n - 1 - (intOf s).toNat)
  case atStart => exact ⟨.slice (some ⟨w.heap.size + 1, 0, none⟩) 0 0, [], by simp, rfl, floor_start w, rfl⟩
  case round =>
    obtain ⟨v, zs, hk, rfl, hr, HZ⟩ := hrel
    by_cases hlt : zs.length < 2 * n - 1
    · obtain ⟨r1, r2, r3, r4, r5, r6⟩ := id hr
      have hcell := r2.cell (i := 0) (by omega)
      have hfr := r2.frozen 0
      have hne : some (w.heap.size + 2) ≠ v.ownBlock := fun e => r4 e.symm
      have R3 := Lib.hid r3
      have HC := Lib.hid ((r2.alloc (.cells #[.int .i64 1] 3)).cell (i := 0) (by omega))
      have hca : (wr.alloc (.cells #[.int .i64 1] 3)).cell? ⟨w.heap.size + 1 + 1, 0, none⟩ = some v := HC.out
      have hcb : wr.cell? ⟨w.heap.size + 1 + 1, 0, none⟩ = some v := hcell
      have HF := Lib.hid ((r2.alloc (.cells #[.int .i64 1] 3)).frozen 0)
      have HR := Lib.hid hr
      clear r1 r2 r3 hr
      go_wp2_with fail
      go_region_law ((refine step_append_lies _ (by rfl) _ _ _ (by rfl) (w.heap.size + 1) 3 i0 _ 1 8 Try.underlying34 hi0 hz0 hz1 hz2 rfl (by omega) v zs.length _ (by rfl) ((World.ownsRow.alloc R3.out _).drew) ⟨wr.heap.size, 0, none⟩ 1 1 [.int .i64 1] (by rfl) (by rfl) (World.news_of_block (cs := #[.int .i64 1]) (t := 3) (fr := (0, 0)) (heap_alloc_new wr _)) (by simp [Value.oneCell']) (by omega) (by unfold maxLen; omega) (by omega) (by simp; omega) (wr.heap.size + 1) (by simp) ?_; intro gg cap w1 hown1 hgrow hat hlt1; have hfz := (hgrow.frozen_far ⟨w.heap.size + 2, 0, none⟩ (by simp; omega) hne).trans HF.out; have hcc := (hgrow.cell_far ⟨w.heap.size + 2, 0, none⟩ (by simp; omega) hne).trans HC.out))
      all_goals
        have HS := FloorRel.step (c := 1) HR.out hown1 ⟨hgrow.os, hgrow.tape, hgrow.output, hgrow.size, hgrow.block⟩ hat
        go_wp2_with fail
        go_roundw
        case rel => exact ⟨_, zs ++ [1], by simp; omega, by simp, HS, by (unfold Hid; rw [List.length_append, List.length_singleton, List.replicate_succ', ← HZ.out])⟩
        case measure => simp [intOf]; omega
    · have hpos : 0 < zs.length := by omega
      obtain ⟨g, cap, rfl, hlo, hgl⟩ := World.ownsRow.form hr.2.2.1 hpos
      have hE := Lib.hid (floor_end (c := 1 - 1) hr)
      have hR := Lib.hid (floor_cell (u := .int .i64 (1 - 1)) (b := .slice (some ⟨g, 0, none⟩) zs.length cap) hr)
      obtain ⟨r1, r2, r3, r4, r5, r6⟩ := hr
      have hc2 : wr.cell? ⟨w.heap.size + 1 + 1, 0, none⟩ = some (.slice (some ⟨g, 0, none⟩) zs.length cap) := r2.cell (i := 0) (by omega)
      have hc0 := r1.cell (i := 0) (by omega)
      have hf0 := r1.frozen 0
      have hcg : wr.cell? ⟨g, 0, none⟩ = some (.int .i64 1) := by
        rw [World.ownsRow.cellAt r3 0 (by omega), HZ.out, List.getElem?_map, List.getElem?_replicate, if_pos hpos]; rfl
      have hfg := World.ownsRow.frozenAt r3 0
      have hpi : (0 : Int) < (zs.length : Int) := by omega
      have hne1 : g ≠ w.heap.size + 1 + 1 := fun e => r4 (by simp [Value.ownBlock, e])
      have hne0 : g ≠ w.heap.size := by omega
      have HL : Hid (zs.length = 2 * n - 1) := by unfold Hid; omega
      clear r1 r2 r3 r4
      have HE := Lib.hid (floor_rows 1 n h1 zs HZ.out HL.out)
      go_wp2_with fail
      refine bodyPost_ret (v := .agg #[.slice (some ⟨g, 0, none⟩) zs.length cap]) (by have hR' := hR.out; simp only [Int.reduceSub] at hR'; simp [results, Try.results91, go_sem, hR']) rfl ?_
      have hE2 := hE.out
      rw [HE.out] at hE2
      exact hE2

set_option maxRecDepth 100000 in
set_option maxHeartbeats 2000000 in
theorem TreeFloor_at2 (n : Nat) (h1 : 1 ≤ n) (h4 : n ≤ 4) (w : World) :
    Calls Try.prog 91 #[.int .i64 2, .int .i64 n] w (RetFloor w (floorRows 7 n)) := by
  obtain ⟨i0, hi0, hz0, hz1, hz2⟩ := info_parts infoInt
  have hg : gridB 2 n = true := by
    simp only [gridB, Bool.and_eq_true, inB_iff]; omega
  have hw : ∀ z : Int, 0 ≤ z → z ≤ 300 → IntKind.i64.wrap z = z := fun z h1 h2 => IntWalk.i64_in z (by omega)
  have hs1 : ∀ W : World, Sem.run Try.prog (Op.shift BinOp.shl IntKind.i64 1 IntKind.i64 1) W = .ok (.int .i64 2) W := fun _ => by kernel_rfl
  have hs3 : ∀ W : World, Sem.run Try.prog (Op.shift BinOp.shl IntKind.i64 1 IntKind.i64 3) W = .ok (.int .i64 8) W := fun _ => by kernel_rfl
  have hs5 : ∀ W : World, Sem.run Try.prog (Op.shift BinOp.shl IntKind.i64 1 IntKind.i64 5) W = .ok (.int .i64 32) W := fun _ => by kernel_rfl
  have hs7 : ∀ W : World, Sem.run Try.prog (Op.shift BinOp.shl IntKind.i64 1 IntKind.i64 7) W = .ok (.int .i64 128) W := fun _ => by kernel_rfl
  go_enter Try.func91, Try.ntmps91
  go_wp2_with fail
  refine (GridOk_any _ _ _).mono ?_
  rintro e w1 ⟨rfl, rfl⟩
  go_wp2_with fail
  clear hg
  go_loopw [16] (fun s wr => ∃ (v : Value) (zs : List Int), zs.length ≤ 2 * n - 1 ∧ s = .int .i64 (zs.length : Int) ∧ FloorRel w wr v zs ∧ Hid (zs = List.replicate zs.length 7)) (fun s _ => 2 * n - 1 - (intOf s).toNat)
  case atStart => exact ⟨.slice (some ⟨w.heap.size + 1, 0, none⟩) 0 0, [], by simp, rfl, floor_start w, rfl⟩
  case round =>
    obtain ⟨v, zs, hk, rfl, hr, HZ⟩ := hrel
    by_cases hlt : zs.length < 2 * n - 1
    · obtain ⟨r1, r2, r3, r4, r5, r6⟩ := id hr
      have hcell := r2.cell (i := 0) (by omega)
      have hfr := r2.frozen 0
      have hne : some (w.heap.size + 2) ≠ v.ownBlock := fun e => r4 e.symm
      have R3 := Lib.hid r3
      have HC := Lib.hid ((r2.alloc (.cells #[.int .i64 7] 3)).cell (i := 0) (by omega))
      have hca : (wr.alloc (.cells #[.int .i64 7] 3)).cell? ⟨w.heap.size + 1 + 1, 0, none⟩ = some v := HC.out
      have hcb : wr.cell? ⟨w.heap.size + 1 + 1, 0, none⟩ = some v := hcell
      have HF := Lib.hid ((r2.alloc (.cells #[.int .i64 7] 3)).frozen 0)
      have HR := Lib.hid hr
      clear r1 r2 r3 hr
      go_wp2_with fail
      go_region_law ((refine step_append_lies _ (by rfl) _ _ _ (by rfl) (w.heap.size + 1) 3 i0 _ 1 8 Try.underlying34 hi0 hz0 hz1 hz2 rfl (by omega) v zs.length _ (by rfl) ((World.ownsRow.alloc R3.out _).drew) ⟨wr.heap.size, 0, none⟩ 1 1 [.int .i64 7] (by rfl) (by rfl) (World.news_of_block (cs := #[.int .i64 7]) (t := 3) (fr := (0, 0)) (heap_alloc_new wr _)) (by simp [Value.oneCell']) (by omega) (by unfold maxLen; omega) (by omega) (by simp; omega) (wr.heap.size + 1) (by simp) ?_; intro gg cap w1 hown1 hgrow hat hlt1; have hfz := (hgrow.frozen_far ⟨w.heap.size + 2, 0, none⟩ (by simp; omega) hne).trans HF.out; have hcc := (hgrow.cell_far ⟨w.heap.size + 2, 0, none⟩ (by simp; omega) hne).trans HC.out))
      all_goals
        have HS := FloorRel.step (c := 7) HR.out hown1 ⟨hgrow.os, hgrow.tape, hgrow.output, hgrow.size, hgrow.block⟩ hat
        go_wp2_with fail
        go_roundw
        case rel => exact ⟨_, zs ++ [7], by simp; omega, by simp, HS, by (unfold Hid; rw [List.length_append, List.length_singleton, List.replicate_succ', ← HZ.out])⟩
        case measure => simp [intOf]; omega
    · have hpos : 0 < zs.length := by omega
      obtain ⟨g, cap, rfl, hlo, hgl⟩ := World.ownsRow.form hr.2.2.1 hpos
      have hE := Lib.hid (floor_end (c := 7 - 1) hr)
      have hR := Lib.hid (floor_cell (u := .int .i64 (7 - 1)) (b := .slice (some ⟨g, 0, none⟩) zs.length cap) hr)
      obtain ⟨r1, r2, r3, r4, r5, r6⟩ := hr
      have hc2 : wr.cell? ⟨w.heap.size + 1 + 1, 0, none⟩ = some (.slice (some ⟨g, 0, none⟩) zs.length cap) := r2.cell (i := 0) (by omega)
      have hc0 := r1.cell (i := 0) (by omega)
      have hf0 := r1.frozen 0
      have hcg : wr.cell? ⟨g, 0, none⟩ = some (.int .i64 7) := by
        rw [World.ownsRow.cellAt r3 0 (by omega), HZ.out, List.getElem?_map, List.getElem?_replicate, if_pos hpos]; rfl
      have hfg := World.ownsRow.frozenAt r3 0
      have hpi : (0 : Int) < (zs.length : Int) := by omega
      have hne1 : g ≠ w.heap.size + 1 + 1 := fun e => r4 (by simp [Value.ownBlock, e])
      have hne0 : g ≠ w.heap.size := by omega
      have HL : Hid (zs.length = 2 * n - 1) := by unfold Hid; omega
      clear r1 r2 r3 r4
      have HE := Lib.hid (floor_rows 7 n h1 zs HZ.out HL.out)
      go_wp2_with fail
      refine bodyPost_ret (v := .agg #[.slice (some ⟨g, 0, none⟩) zs.length cap]) (by have hR' := hR.out; simp only [Int.reduceSub] at hR'; simp [results, Try.results91, go_sem, hR']) rfl ?_
      have hE2 := hE.out
      rw [HE.out] at hE2
      exact hE2

set_option maxRecDepth 100000 in
set_option maxHeartbeats 2000000 in
theorem TreeFloor_at3 (n : Nat) (h1 : 1 ≤ n) (h4 : n ≤ 4) (w : World) :
    Calls Try.prog 91 #[.int .i64 3, .int .i64 n] w (RetFloor w (floorRows 31 n)) := by
  obtain ⟨i0, hi0, hz0, hz1, hz2⟩ := info_parts infoInt
  have hg : gridB 3 n = true := by
    simp only [gridB, Bool.and_eq_true, inB_iff]; omega
  have hw : ∀ z : Int, 0 ≤ z → z ≤ 300 → IntKind.i64.wrap z = z := fun z h1 h2 => IntWalk.i64_in z (by omega)
  have hs1 : ∀ W : World, Sem.run Try.prog (Op.shift BinOp.shl IntKind.i64 1 IntKind.i64 1) W = .ok (.int .i64 2) W := fun _ => by kernel_rfl
  have hs3 : ∀ W : World, Sem.run Try.prog (Op.shift BinOp.shl IntKind.i64 1 IntKind.i64 3) W = .ok (.int .i64 8) W := fun _ => by kernel_rfl
  have hs5 : ∀ W : World, Sem.run Try.prog (Op.shift BinOp.shl IntKind.i64 1 IntKind.i64 5) W = .ok (.int .i64 32) W := fun _ => by kernel_rfl
  have hs7 : ∀ W : World, Sem.run Try.prog (Op.shift BinOp.shl IntKind.i64 1 IntKind.i64 7) W = .ok (.int .i64 128) W := fun _ => by kernel_rfl
  go_enter Try.func91, Try.ntmps91
  go_wp2_with fail
  refine (GridOk_any _ _ _).mono ?_
  rintro e w1 ⟨rfl, rfl⟩
  go_wp2_with fail
  clear hg
  go_loopw [16] (fun s wr => ∃ (v : Value) (zs : List Int), zs.length ≤ 2 * n - 1 ∧ s = .int .i64 (zs.length : Int) ∧ FloorRel w wr v zs ∧ Hid (zs = List.replicate zs.length 31)) (fun s _ => 2 * n - 1 - (intOf s).toNat)
  case atStart => exact ⟨.slice (some ⟨w.heap.size + 1, 0, none⟩) 0 0, [], by simp, rfl, floor_start w, rfl⟩
  case round =>
    obtain ⟨v, zs, hk, rfl, hr, HZ⟩ := hrel
    by_cases hlt : zs.length < 2 * n - 1
    · obtain ⟨r1, r2, r3, r4, r5, r6⟩ := id hr
      have hcell := r2.cell (i := 0) (by omega)
      have hfr := r2.frozen 0
      have hne : some (w.heap.size + 2) ≠ v.ownBlock := fun e => r4 e.symm
      have R3 := Lib.hid r3
      have HC := Lib.hid ((r2.alloc (.cells #[.int .i64 31] 3)).cell (i := 0) (by omega))
      have hca : (wr.alloc (.cells #[.int .i64 31] 3)).cell? ⟨w.heap.size + 1 + 1, 0, none⟩ = some v := HC.out
      have hcb : wr.cell? ⟨w.heap.size + 1 + 1, 0, none⟩ = some v := hcell
      have HF := Lib.hid ((r2.alloc (.cells #[.int .i64 31] 3)).frozen 0)
      have HR := Lib.hid hr
      clear r1 r2 r3 hr
      go_wp2_with fail
      go_region_law ((refine step_append_lies _ (by rfl) _ _ _ (by rfl) (w.heap.size + 1) 3 i0 _ 1 8 Try.underlying34 hi0 hz0 hz1 hz2 rfl (by omega) v zs.length _ (by rfl) ((World.ownsRow.alloc R3.out _).drew) ⟨wr.heap.size, 0, none⟩ 1 1 [.int .i64 31] (by rfl) (by rfl) (World.news_of_block (cs := #[.int .i64 31]) (t := 3) (fr := (0, 0)) (heap_alloc_new wr _)) (by simp [Value.oneCell']) (by omega) (by unfold maxLen; omega) (by omega) (by simp; omega) (wr.heap.size + 1) (by simp) ?_; intro gg cap w1 hown1 hgrow hat hlt1; have hfz := (hgrow.frozen_far ⟨w.heap.size + 2, 0, none⟩ (by simp; omega) hne).trans HF.out; have hcc := (hgrow.cell_far ⟨w.heap.size + 2, 0, none⟩ (by simp; omega) hne).trans HC.out))
      all_goals
        have HS := FloorRel.step (c := 31) HR.out hown1 ⟨hgrow.os, hgrow.tape, hgrow.output, hgrow.size, hgrow.block⟩ hat
        go_wp2_with fail
        go_roundw
        case rel => exact ⟨_, zs ++ [31], by simp; omega, by simp, HS, by (unfold Hid; rw [List.length_append, List.length_singleton, List.replicate_succ', ← HZ.out])⟩
        case measure => simp [intOf]; omega
    · have hpos : 0 < zs.length := by omega
      obtain ⟨g, cap, rfl, hlo, hgl⟩ := World.ownsRow.form hr.2.2.1 hpos
      have hE := Lib.hid (floor_end (c := 31 - 1) hr)
      have hR := Lib.hid (floor_cell (u := .int .i64 (31 - 1)) (b := .slice (some ⟨g, 0, none⟩) zs.length cap) hr)
      obtain ⟨r1, r2, r3, r4, r5, r6⟩ := hr
      have hc2 : wr.cell? ⟨w.heap.size + 1 + 1, 0, none⟩ = some (.slice (some ⟨g, 0, none⟩) zs.length cap) := r2.cell (i := 0) (by omega)
      have hc0 := r1.cell (i := 0) (by omega)
      have hf0 := r1.frozen 0
      have hcg : wr.cell? ⟨g, 0, none⟩ = some (.int .i64 31) := by
        rw [World.ownsRow.cellAt r3 0 (by omega), HZ.out, List.getElem?_map, List.getElem?_replicate, if_pos hpos]; rfl
      have hfg := World.ownsRow.frozenAt r3 0
      have hpi : (0 : Int) < (zs.length : Int) := by omega
      have hne1 : g ≠ w.heap.size + 1 + 1 := fun e => r4 (by simp [Value.ownBlock, e])
      have hne0 : g ≠ w.heap.size := by omega
      have HL : Hid (zs.length = 2 * n - 1) := by unfold Hid; omega
      clear r1 r2 r3 r4
      have HE := Lib.hid (floor_rows 31 n h1 zs HZ.out HL.out)
      go_wp2_with fail
      refine bodyPost_ret (v := .agg #[.slice (some ⟨g, 0, none⟩) zs.length cap]) (by have hR' := hR.out; simp only [Int.reduceSub] at hR'; simp [results, Try.results91, go_sem, hR']) rfl ?_
      have hE2 := hE.out
      rw [HE.out] at hE2
      exact hE2

set_option maxRecDepth 100000 in
set_option maxHeartbeats 2000000 in
theorem TreeFloor_at4 (n : Nat) (h1 : 1 ≤ n) (h4 : n ≤ 4) (w : World) :
    Calls Try.prog 91 #[.int .i64 4, .int .i64 n] w (RetFloor w (floorRows 127 n)) := by
  obtain ⟨i0, hi0, hz0, hz1, hz2⟩ := info_parts infoInt
  have hg : gridB 4 n = true := by
    simp only [gridB, Bool.and_eq_true, inB_iff]; omega
  have hw : ∀ z : Int, 0 ≤ z → z ≤ 300 → IntKind.i64.wrap z = z := fun z h1 h2 => IntWalk.i64_in z (by omega)
  have hs1 : ∀ W : World, Sem.run Try.prog (Op.shift BinOp.shl IntKind.i64 1 IntKind.i64 1) W = .ok (.int .i64 2) W := fun _ => by kernel_rfl
  have hs3 : ∀ W : World, Sem.run Try.prog (Op.shift BinOp.shl IntKind.i64 1 IntKind.i64 3) W = .ok (.int .i64 8) W := fun _ => by kernel_rfl
  have hs5 : ∀ W : World, Sem.run Try.prog (Op.shift BinOp.shl IntKind.i64 1 IntKind.i64 5) W = .ok (.int .i64 32) W := fun _ => by kernel_rfl
  have hs7 : ∀ W : World, Sem.run Try.prog (Op.shift BinOp.shl IntKind.i64 1 IntKind.i64 7) W = .ok (.int .i64 128) W := fun _ => by kernel_rfl
  go_enter Try.func91, Try.ntmps91
  go_wp2_with fail
  refine (GridOk_any _ _ _).mono ?_
  rintro e w1 ⟨rfl, rfl⟩
  go_wp2_with fail
  clear hg
  go_loopw [16] (fun s wr => ∃ (v : Value) (zs : List Int), zs.length ≤ 2 * n - 1 ∧ s = .int .i64 (zs.length : Int) ∧ FloorRel w wr v zs ∧ Hid (zs = List.replicate zs.length 127)) (fun s _ => 2 * n - 1 - (intOf s).toNat)
  case atStart => exact ⟨.slice (some ⟨w.heap.size + 1, 0, none⟩) 0 0, [], by simp, rfl, floor_start w, rfl⟩
  case round =>
    obtain ⟨v, zs, hk, rfl, hr, HZ⟩ := hrel
    by_cases hlt : zs.length < 2 * n - 1
    · obtain ⟨r1, r2, r3, r4, r5, r6⟩ := id hr
      have hcell := r2.cell (i := 0) (by omega)
      have hfr := r2.frozen 0
      have hne : some (w.heap.size + 2) ≠ v.ownBlock := fun e => r4 e.symm
      have R3 := Lib.hid r3
      have HC := Lib.hid ((r2.alloc (.cells #[.int .i64 127] 3)).cell (i := 0) (by omega))
      have hca : (wr.alloc (.cells #[.int .i64 127] 3)).cell? ⟨w.heap.size + 1 + 1, 0, none⟩ = some v := HC.out
      have hcb : wr.cell? ⟨w.heap.size + 1 + 1, 0, none⟩ = some v := hcell
      have HF := Lib.hid ((r2.alloc (.cells #[.int .i64 127] 3)).frozen 0)
      have HR := Lib.hid hr
      clear r1 r2 r3 hr
      go_wp2_with fail
      go_region_law ((refine step_append_lies _ (by rfl) _ _ _ (by rfl) (w.heap.size + 1) 3 i0 _ 1 8 Try.underlying34 hi0 hz0 hz1 hz2 rfl (by omega) v zs.length _ (by rfl) ((World.ownsRow.alloc R3.out _).drew) ⟨wr.heap.size, 0, none⟩ 1 1 [.int .i64 127] (by rfl) (by rfl) (World.news_of_block (cs := #[.int .i64 127]) (t := 3) (fr := (0, 0)) (heap_alloc_new wr _)) (by simp [Value.oneCell']) (by omega) (by unfold maxLen; omega) (by omega) (by simp; omega) (wr.heap.size + 1) (by simp) ?_; intro gg cap w1 hown1 hgrow hat hlt1; have hfz := (hgrow.frozen_far ⟨w.heap.size + 2, 0, none⟩ (by simp; omega) hne).trans HF.out; have hcc := (hgrow.cell_far ⟨w.heap.size + 2, 0, none⟩ (by simp; omega) hne).trans HC.out))
      all_goals
        have HS := FloorRel.step (c := 127) HR.out hown1 ⟨hgrow.os, hgrow.tape, hgrow.output, hgrow.size, hgrow.block⟩ hat
        go_wp2_with fail
        go_roundw
        case rel => exact ⟨_, zs ++ [127], by simp; omega, by simp, HS, by (unfold Hid; rw [List.length_append, List.length_singleton, List.replicate_succ', ← HZ.out])⟩
        case measure => simp [intOf]; omega
    · have hpos : 0 < zs.length := by omega
      obtain ⟨g, cap, rfl, hlo, hgl⟩ := World.ownsRow.form hr.2.2.1 hpos
      have hE := Lib.hid (floor_end (c := 127 - 1) hr)
      have hR := Lib.hid (floor_cell (u := .int .i64 (127 - 1)) (b := .slice (some ⟨g, 0, none⟩) zs.length cap) hr)
      obtain ⟨r1, r2, r3, r4, r5, r6⟩ := hr
      have hc2 : wr.cell? ⟨w.heap.size + 1 + 1, 0, none⟩ = some (.slice (some ⟨g, 0, none⟩) zs.length cap) := r2.cell (i := 0) (by omega)
      have hc0 := r1.cell (i := 0) (by omega)
      have hf0 := r1.frozen 0
      have hcg : wr.cell? ⟨g, 0, none⟩ = some (.int .i64 127) := by
        rw [World.ownsRow.cellAt r3 0 (by omega), HZ.out, List.getElem?_map, List.getElem?_replicate, if_pos hpos]; rfl
      have hfg := World.ownsRow.frozenAt r3 0
      have hpi : (0 : Int) < (zs.length : Int) := by omega
      have hne1 : g ≠ w.heap.size + 1 + 1 := fun e => r4 (by simp [Value.ownBlock, e])
      have hne0 : g ≠ w.heap.size := by omega
      have HL : Hid (zs.length = 2 * n - 1) := by unfold Hid; omega
      clear r1 r2 r3 r4
      have HE := Lib.hid (floor_rows 127 n h1 zs HZ.out HL.out)
      go_wp2_with fail
      refine bodyPost_ret (v := .agg #[.slice (some ⟨g, 0, none⟩) zs.length cap]) (by have hR' := hR.out; simp only [Int.reduceSub] at hR'; simp [results, Try.results91, go_sem, hR']) rfl ?_
      have hE2 := hE.out
      rw [HE.out] at hE2
      exact hE2

def floorZ (a b : Int) : List Int := if gridB a b then floorRows (if a = 1 then 1 else if a = 2 then 7 else if a = 3 then 31 else 127) b.toNat else []
theorem TreeFloor_any (a b : Int) (w : World) :
    Calls Try.prog 91 #[.int .i64 a, .int .i64 b] w (RetFloor w (floorZ a b)) := by
  cases hg : gridB a b
  · rw [show floorZ a b = [] from by rw [floorZ, hg]; rfl]
    go_enter Try.func91, Try.ntmps91
    go_wp2_with fail
    refine (GridOk_any _ _ _).mono ?_
    rintro e w1 ⟨rfl, rfl⟩
    go_wp2_with fail
    refine bodyPost_ret (v := .agg #[.slice none 0 0]) (by simp [results, Try.results91, go_sem]) rfl ?_
    refine ⟨.slice none 0 0, rfl, World.ownsRow_nil _ _ _ _, ?_⟩
    repeat (first | exact Below.refl _ _ | refine Below.setCell ?_ (by simp <;> omega) _ | refine Below.alloc ?_ (by simp <;> omega) _)
  · have h := hg
    simp only [gridB, Bool.and_eq_true, inB_iff] at h
    obtain ⟨⟨g1, g2⟩, g3, g4⟩ := h
    obtain ⟨n, rfl⟩ := Int.eq_ofNat_of_zero_le (show 0 ≤ b by omega)
    rcases (show a = 1 ∨ a = 2 ∨ a = 3 ∨ a = 4 by omega) with rfl | rfl | rfl | rfl
    · rw [show floorZ 1 n = floorRows 1 n from by rw [floorZ, hg]; rfl]; exact TreeFloor_at1 n (by omega) (by omega) w
    · rw [show floorZ 2 n = floorRows 7 n from by rw [floorZ, hg]; rfl]; exact TreeFloor_at2 n (by omega) (by omega) w
    · rw [show floorZ 3 n = floorRows 31 n from by rw [floorZ, hg]; rfl]; exact TreeFloor_at3 n (by omega) (by omega) w
    · rw [show floorZ 4 n = floorRows 127 n from by rw [floorZ, hg]; rfl]; exact TreeFloor_at4 n (by omega) (by omega) w
end Go.Proofs.Ytpejphholomenaa
