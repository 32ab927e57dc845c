/- What the claim's walk rests on: parts TreeFloorS, FloorC, Links, Posts, DetLaw, Mat, TreeLaw, TreeM, TreeM2, Det, SrcRow, SDet, CountTrees. -/
import Derived.Test.YtehnbalbpfmijaaKt6
import Derived.Test.YtehnbalbpfmijaaKt1
import Derived.Test.YtehnbalbpfmijaaKt2
import Derived.Test.YtehnbalbpfmijaaKt4
import Derived.OwnWalk
import Derived.Deep.RegionHeld3
import Derived.BigRegion
import Derived.Deep.Cut
import Derived.Deep.DeepCutAuto
import Derived.StillTailTactics
namespace Go.Proofs.Ytehnbalbpfmijaa
open Go.RowKit

/-- Behind k rounds of the reference: block H holds the result's nil, block H + 1 the value of the row. -/
def FloorS (w wr : World) (v : Value) (zs : List Int) : Prop :=
  wr.rowIs w.heap.size 39 1 (fun _ => .slice none 0 0) ∧ wr.rowIs (w.heap.size + 1) 39 1 (fun _ => v) ∧ OwnI wr (w.heap.size + 2) v zs ∧ w.heap.size + 2 ≤ wr.heap.size ∧ Below w.heap.size w wr
theorem FloorS.step {w wr w1 : World} {v : Value} {zs : List Int} {c : Int} {g cap : Nat} (h : FloorS w wr v zs)
    (hown : w1.ownsRow (w.heap.size + 2) 3 1 (.slice (some ⟨g, 0, none⟩) (zs.length + 1) cap) (zs.length + 1) (zs.map (Value.int .i64) ++ [.int .i64 c]))
    (hg : (wr.alloc (.cells #[.int .i64 c] 3)).grownBy w1 v.ownBlock) :
    FloorS w (w1.setCell ⟨w.heap.size + 1, 0, none⟩ (.slice (some ⟨g, 0, none⟩) (zs.length + 1) cap)) (.slice (some ⟨g, 0, none⟩) (zs.length + 1) cap) (zs ++ [c]) ∧
      w1.cell? ⟨w.heap.size + 1, 0, none⟩ = some v ∧ w1.frozen? ⟨w.heap.size + 1, 0, none⟩ = false := by
  obtain ⟨h1, h2, h3, h5, h6⟩ := h
  have hsz : wr.heap.size + 1 ≤ w1.heap.size := by simpa using hg.size
  have hgl := (World.ownsRow.lt hown g rfl).1
  have hlow : ∀ k, v.ownBlock = some k → w.heap.size + 2 ≤ k := fun k hk => (h3.lt k hk).1
  have hb0 : w1.heap[w.heap.size]? = wr.heap[w.heap.size]? :=
    (hg.block _ (by simp; omega) (fun e => by have := hlow _ e.symm; omega)).trans (Below.heap_alloc _ _ _ (by omega))
  have hb2 : w1.heap[w.heap.size + 1]? = wr.heap[w.heap.size + 1]? :=
    (hg.block _ (by simp; omega) (fun e => by have := hlow _ e.symm; omega)).trans (Below.heap_alloc _ _ _ (by omega))
  refine ⟨⟨(h1.of_block hb0).setOther (by simp) _, ((h2.of_block hb2).set 0 _).congr fun i hi => by simp [show i = 0 by omega], ?_, by simp; omega, ?_⟩, (h2.of_block hb2).cell (by omega), (h2.of_block hb2).frozen 0⟩
  · have e : (zs ++ [c]).length = zs.length + 1 := by simp
    have e2 : (zs ++ [c]).map (Value.int .i64) = zs.map (Value.int .i64) ++ [.int .i64 c] := by simp
    unfold OwnI
    rw [e, e2]
    exact Go.ownsRow_setCell_other hown (by simp [Value.ownBlock]; omega) _
  · exact ((h6.alloc (by omega) _).grown hg (by simp; omega) (fun k hk => by have := hlow k hk; omega)).setCell (by simp) _

theorem floor_take0 (c : Int) (n : Nat) (zs : List Int) (hz : zs = (floorRows c n).take zs.length) (h : zs.length = 0) : zs ++ [c - 1] = (floorRows c n).take (zs ++ [c - 1]).length := by
  have e : zs = [] := List.eq_nil_of_length_eq_zero h
  subst e; rfl
theorem floor_take1 (c : Int) (n : Nat) (zs : List Int) (hz : zs = (floorRows c n).take zs.length) (h : 0 < zs.length) (hl : zs.length < 2 * n - 1) : zs ++ [c] = (floorRows c n).take (zs ++ [c]).length := by
  obtain ⟨m, hm⟩ : ∃ m, zs.length = m + 1 := ⟨zs.length - 1, by omega⟩
  have hlen : m + 1 < (floorRows c n).length := by simp [floorRows]; omega
  rw [hm] at hz
  rw [List.length_append, List.length_singleton, hm, List.take_succ_eq_append_getElem hlen]
  exact congr (congrArg _ hz) (by simp [floorRows])
theorem floorS_start (w : World) : FloorS w ((w.alloc (.cells #[.slice none 0 0] 39)).alloc (.cells #[.slice none 0 0] 39)) (.slice none 0 0) [] := by
  have a1 := row_one w (.slice none 0 0) 39
  have a3 := row_one (w.alloc (.cells #[.slice none 0 0] 39)) (.slice none 0 0) 39
  exact ⟨a1.alloc _, by simpa using a3, World.ownsRow_nil _ _ _ _, by simp, ((Below.refl _ _).alloc (Nat.le_refl _) _).alloc (by simp) _⟩
theorem floorS_end {w wr : World} {v : Value} {zs : List Int} (h : FloorS w wr v zs) :
    RetFloor w zs (.returned (.agg #[v])) (wr.setCell ⟨w.heap.size, 0, none⟩ v) ∧ (wr.setCell ⟨w.heap.size, 0, none⟩ v).cell? ⟨w.heap.size, 0, none⟩ = some v := by
  obtain ⟨h1, h2, h3, h5, h6⟩ := h
  have h4 := (h1.set 0 v).cell (i := 0) (by omega)
  refine ⟨⟨v, rfl, OwnI.mono0 (Go.ownsRow_setCell_other h3 (a := ⟨w.heap.size, 0, none⟩) (fun e => by have := (h3.lt _ e).1; simp at this; omega) v) (by omega), h6.setCell (Nat.le_refl _) _⟩, by simpa using h4⟩

set_option maxRecDepth 100000 in
set_option maxHeartbeats 2000000 in
theorem specTreeFloor_at1 (n : Nat) (h1 : 1 ≤ n) (h4 : n ≤ 4) (w : World) :
    Calls Try.prog 106 #[.int .i64 1, .int .i64 n] w (RetFloor w (floorRows 1 n)) := by
  obtain ⟨i0, hi0, hz0, hz1, hz2⟩ := info_parts infoInt
  have hg : gridB 1 n = true := by
    simp only [gridB, Bool.and_eq_true, inB_iff]; omega
  go_enter Try.func106, Try.ntmps106
  go_wp2_with fail
  go_loopw [6] (fun s wr => ∃ (v : Value) (zs : List Int), zs.length ≤ 2 * n - 1 ∧ s = .int .i64 (zs.length : Int) ∧ FloorS w wr v zs ∧ Hid (zs = (floorRows 1 n).take zs.length)) (fun s _ => 2 * n - 1 - (intOf s).toNat)
  case atStart => exact ⟨.slice none 0 0, [], by simp, rfl, floorS_start w, rfl⟩
  case round =>
    obtain ⟨v, zs, hk, rfl, hr, HZ⟩ := hrel
    by_cases hlt : zs.length < 2 * n - 1
    · obtain ⟨r1, r2, r3, r5, r6⟩ := id hr
      have hc : wr.cell? ⟨w.heap.size + 1, 0, none⟩ = some v := r2.cell (by omega)
      have HR := Lib.hid hr
      have R3 := Lib.hid r3
      clear r1 r2 r3 hr
      by_cases h0 : zs.length = 0
      · have h0' : ((zs.length : Int) == 0) = true := by simp [h0]
        have HN := Lib.hid (floor_take0 1 n zs HZ.out h0); clear h0
        go_wp2_with fail
        refine (specGridOk_any _ _ _).mono ?_
        rintro e w1 ⟨rfl, rfl⟩
        go_wp2_with (at_builtin; refine wpList_append_lies _ rfl (.tmp 31) (.tmp 33) _ rfl (w.heap.size + 2) 3 i0 _ 1 8 Try.underlying31 hi0 hz0 hz1 hz2 rfl (by omega) v zs.length _ rfl (World.ownsRow.alloc R3.out _) ⟨wr.heap.size, 0, none⟩ 1 1 [.int .i64 0] rfl rfl (World.news_of_block (cs := #[.int .i64 0]) (t := 3) (fr := (0, 0)) (heap_alloc_new wr _)) (by simp [Value.oneCell']) (by omega) (by unfold maxLen; omega) (by omega) (by simp; omega) (wr.heap.size + 1) (by simp) ?_; intro gg cap w1 hown1 hgrow hat hlt1; obtain ⟨hs1, hs2, hs3⟩ := FloorS.step HR.out hown1 hgrow; have HS1 := Lib.hid hs1; clear hs1)
        go_roundw
        case rel => exact ⟨_, zs ++ [1 - 1], by simp; omega, by simp, HS1.out, HN⟩
        case measure => simp [intOf]; omega
      · have h0' : ((zs.length : Int) == 0) = false := by rw [beq_eq_false_iff_ne]; omega
        have HN := Lib.hid (floor_take1 1 n zs HZ.out (by omega) hlt); clear h0
        go_wp2_with fail
        refine (specGridOk_any _ _ _).mono ?_
        rintro e w1 ⟨rfl, rfl⟩
        go_wp2_with (at_builtin; refine wpList_append_lies _ rfl (.tmp 31) (.tmp 33) _ rfl (w.heap.size + 2) 3 i0 _ 1 8 Try.underlying31 hi0 hz0 hz1 hz2 rfl (by omega) v zs.length _ rfl (World.ownsRow.alloc R3.out _) ⟨wr.heap.size, 0, none⟩ 1 1 [.int .i64 1] rfl rfl (World.news_of_block (cs := #[.int .i64 1]) (t := 3) (fr := (0, 0)) (heap_alloc_new wr _)) (by simp [Value.oneCell']) (by omega) (by unfold maxLen; omega) (by omega) (by simp; omega) (wr.heap.size + 1) (by simp) ?_; intro gg cap w1 hown1 hgrow hat hlt1; obtain ⟨hs1, hs2, hs3⟩ := FloorS.step HR.out hown1 hgrow; have HS1 := Lib.hid hs1; clear hs1)
        go_roundw
        case rel => exact ⟨_, zs ++ [1], by simp; omega, by simp, HS1.out, HN⟩
        case measure => simp [intOf]; omega
    · obtain ⟨r1, r2, r3, r5, r6⟩ := id hr
      have hc : wr.cell? ⟨w.heap.size + 1, 0, none⟩ = some v := r2.cell (by omega)
      have hc0 := r1.cell (i := 0) (by omega)
      have hf0 := r1.frozen 0
      obtain ⟨A, cp, hv, _⟩ := r3.rd
      obtain ⟨hE, hR⟩ := floorS_end hr
      have HE : Hid (zs = floorRows 1 n) := by
        unfold Hid; rw [HZ.out, List.take_of_length_le]; simp [floorRows]; omega
      rw [HE.out] at hE
      have HEE := Lib.hid hE; have HRR := Lib.hid hR
      clear r1 r2 r3 hr hE hR
      subst hv
      go_wp2_with fail
      refine (specGridOk_any _ _ _).mono ?_
      rintro e w1 ⟨rfl, rfl⟩
      go_wp2_with fail
      refine bodyPost_ret (v := .agg #[.slice A zs.length cp]) (by have hR' := HRR.out; simp [results, Try.results106, go_sem, hR']) rfl ?_
      exact HEE.out
set_option maxRecDepth 100000 in
set_option maxHeartbeats 2000000 in
theorem specTreeFloor_at2 (n : Nat) (h1 : 1 ≤ n) (h4 : n ≤ 4) (w : World) :
    Calls Try.prog 106 #[.int .i64 2, .int .i64 n] w (RetFloor w (floorRows 7 n)) := by
  obtain ⟨i0, hi0, hz0, hz1, hz2⟩ := info_parts infoInt
  have hg : gridB 2 n = true := by
    simp only [gridB, Bool.and_eq_true, inB_iff]; omega
  go_enter Try.func106, Try.ntmps106
  go_wp2_with fail
  go_loopw [6] (fun s wr => ∃ (v : Value) (zs : List Int), zs.length ≤ 2 * n - 1 ∧ s = .int .i64 (zs.length : Int) ∧ FloorS w wr v zs ∧ Hid (zs = (floorRows 7 n).take zs.length)) (fun s _ => 2 * n - 1 - (intOf s).toNat)
  case atStart => exact ⟨.slice none 0 0, [], by simp, rfl, floorS_start w, rfl⟩
  case round =>
    obtain ⟨v, zs, hk, rfl, hr, HZ⟩ := hrel
    by_cases hlt : zs.length < 2 * n - 1
    · obtain ⟨r1, r2, r3, r5, r6⟩ := id hr
      have hc : wr.cell? ⟨w.heap.size + 1, 0, none⟩ = some v := r2.cell (by omega)
      have HR := Lib.hid hr
      have R3 := Lib.hid r3
      clear r1 r2 r3 hr
      by_cases h0 : zs.length = 0
      · have h0' : ((zs.length : Int) == 0) = true := by simp [h0]
        have HN := Lib.hid (floor_take0 7 n zs HZ.out h0); clear h0
        go_wp2_with fail
        refine (specGridOk_any _ _ _).mono ?_
        rintro e w1 ⟨rfl, rfl⟩
        go_wp2_with (at_builtin; refine wpList_append_lies _ rfl (.tmp 31) (.tmp 33) _ rfl (w.heap.size + 2) 3 i0 _ 1 8 Try.underlying31 hi0 hz0 hz1 hz2 rfl (by omega) v zs.length _ rfl (World.ownsRow.alloc R3.out _) ⟨wr.heap.size, 0, none⟩ 1 1 [.int .i64 6] rfl rfl (World.news_of_block (cs := #[.int .i64 6]) (t := 3) (fr := (0, 0)) (heap_alloc_new wr _)) (by simp [Value.oneCell']) (by omega) (by unfold maxLen; omega) (by omega) (by simp; omega) (wr.heap.size + 1) (by simp) ?_; intro gg cap w1 hown1 hgrow hat hlt1; obtain ⟨hs1, hs2, hs3⟩ := FloorS.step HR.out hown1 hgrow; have HS1 := Lib.hid hs1; clear hs1)
        go_roundw
        case rel => exact ⟨_, zs ++ [7 - 1], by simp; omega, by simp, HS1.out, HN⟩
        case measure => simp [intOf]; omega
      · have h0' : ((zs.length : Int) == 0) = false := by rw [beq_eq_false_iff_ne]; omega
        have HN := Lib.hid (floor_take1 7 n zs HZ.out (by omega) hlt); clear h0
        go_wp2_with fail
        refine (specGridOk_any _ _ _).mono ?_
        rintro e w1 ⟨rfl, rfl⟩
        go_wp2_with (at_builtin; refine wpList_append_lies _ rfl (.tmp 31) (.tmp 33) _ rfl (w.heap.size + 2) 3 i0 _ 1 8 Try.underlying31 hi0 hz0 hz1 hz2 rfl (by omega) v zs.length _ rfl (World.ownsRow.alloc R3.out _) ⟨wr.heap.size, 0, none⟩ 1 1 [.int .i64 7] rfl rfl (World.news_of_block (cs := #[.int .i64 7]) (t := 3) (fr := (0, 0)) (heap_alloc_new wr _)) (by simp [Value.oneCell']) (by omega) (by unfold maxLen; omega) (by omega) (by simp; omega) (wr.heap.size + 1) (by simp) ?_; intro gg cap w1 hown1 hgrow hat hlt1; obtain ⟨hs1, hs2, hs3⟩ := FloorS.step HR.out hown1 hgrow; have HS1 := Lib.hid hs1; clear hs1)
        go_roundw
        case rel => exact ⟨_, zs ++ [7], by simp; omega, by simp, HS1.out, HN⟩
        case measure => simp [intOf]; omega
    · obtain ⟨r1, r2, r3, r5, r6⟩ := id hr
      have hc : wr.cell? ⟨w.heap.size + 1, 0, none⟩ = some v := r2.cell (by omega)
      have hc0 := r1.cell (i := 0) (by omega)
      have hf0 := r1.frozen 0
      obtain ⟨A, cp, hv, _⟩ := r3.rd
      obtain ⟨hE, hR⟩ := floorS_end hr
      have HE : Hid (zs = floorRows 7 n) := by
        unfold Hid; rw [HZ.out, List.take_of_length_le]; simp [floorRows]; omega
      rw [HE.out] at hE
      have HEE := Lib.hid hE; have HRR := Lib.hid hR
      clear r1 r2 r3 hr hE hR
      subst hv
      go_wp2_with fail
      refine (specGridOk_any _ _ _).mono ?_
      rintro e w1 ⟨rfl, rfl⟩
      go_wp2_with fail
      refine bodyPost_ret (v := .agg #[.slice A zs.length cp]) (by have hR' := HRR.out; simp [results, Try.results106, go_sem, hR']) rfl ?_
      exact HEE.out
set_option maxRecDepth 100000 in
set_option maxHeartbeats 2000000 in
theorem specTreeFloor_at3 (n : Nat) (h1 : 1 ≤ n) (h4 : n ≤ 4) (w : World) :
    Calls Try.prog 106 #[.int .i64 3, .int .i64 n] w (RetFloor w (floorRows 31 n)) := by
  obtain ⟨i0, hi0, hz0, hz1, hz2⟩ := info_parts infoInt
  have hg : gridB 3 n = true := by
    simp only [gridB, Bool.and_eq_true, inB_iff]; omega
  go_enter Try.func106, Try.ntmps106
  go_wp2_with fail
  go_loopw [6] (fun s wr => ∃ (v : Value) (zs : List Int), zs.length ≤ 2 * n - 1 ∧ s = .int .i64 (zs.length : Int) ∧ FloorS w wr v zs ∧ Hid (zs = (floorRows 31 n).take zs.length)) (fun s _ => 2 * n - 1 - (intOf s).toNat)
  case atStart => exact ⟨.slice none 0 0, [], by simp, rfl, floorS_start w, rfl⟩
  case round =>
    obtain ⟨v, zs, hk, rfl, hr, HZ⟩ := hrel
    by_cases hlt : zs.length < 2 * n - 1
    · obtain ⟨r1, r2, r3, r5, r6⟩ := id hr
      have hc : wr.cell? ⟨w.heap.size + 1, 0, none⟩ = some v := r2.cell (by omega)
      have HR := Lib.hid hr
      have R3 := Lib.hid r3
      clear r1 r2 r3 hr
      by_cases h0 : zs.length = 0
      · have h0' : ((zs.length : Int) == 0) = true := by simp [h0]
        have HN := Lib.hid (floor_take0 31 n zs HZ.out h0); clear h0
        go_wp2_with fail
        refine (specGridOk_any _ _ _).mono ?_
        rintro e w1 ⟨rfl, rfl⟩
        go_wp2_with (at_builtin; refine wpList_append_lies _ rfl (.tmp 31) (.tmp 33) _ rfl (w.heap.size + 2) 3 i0 _ 1 8 Try.underlying31 hi0 hz0 hz1 hz2 rfl (by omega) v zs.length _ rfl (World.ownsRow.alloc R3.out _) ⟨wr.heap.size, 0, none⟩ 1 1 [.int .i64 30] rfl rfl (World.news_of_block (cs := #[.int .i64 30]) (t := 3) (fr := (0, 0)) (heap_alloc_new wr _)) (by simp [Value.oneCell']) (by omega) (by unfold maxLen; omega) (by omega) (by simp; omega) (wr.heap.size + 1) (by simp) ?_; intro gg cap w1 hown1 hgrow hat hlt1; obtain ⟨hs1, hs2, hs3⟩ := FloorS.step HR.out hown1 hgrow; have HS1 := Lib.hid hs1; clear hs1)
        go_roundw
        case rel => exact ⟨_, zs ++ [31 - 1], by simp; omega, by simp, HS1.out, HN⟩
        case measure => simp [intOf]; omega
      · have h0' : ((zs.length : Int) == 0) = false := by rw [beq_eq_false_iff_ne]; omega
        have HN := Lib.hid (floor_take1 31 n zs HZ.out (by omega) hlt); clear h0
        go_wp2_with fail
        refine (specGridOk_any _ _ _).mono ?_
        rintro e w1 ⟨rfl, rfl⟩
        go_wp2_with (at_builtin; refine wpList_append_lies _ rfl (.tmp 31) (.tmp 33) _ rfl (w.heap.size + 2) 3 i0 _ 1 8 Try.underlying31 hi0 hz0 hz1 hz2 rfl (by omega) v zs.length _ rfl (World.ownsRow.alloc R3.out _) ⟨wr.heap.size, 0, none⟩ 1 1 [.int .i64 31] rfl rfl (World.news_of_block (cs := #[.int .i64 31]) (t := 3) (fr := (0, 0)) (heap_alloc_new wr _)) (by simp [Value.oneCell']) (by omega) (by unfold maxLen; omega) (by omega) (by simp; omega) (wr.heap.size + 1) (by simp) ?_; intro gg cap w1 hown1 hgrow hat hlt1; obtain ⟨hs1, hs2, hs3⟩ := FloorS.step HR.out hown1 hgrow; have HS1 := Lib.hid hs1; clear hs1)
        go_roundw
        case rel => exact ⟨_, zs ++ [31], by simp; omega, by simp, HS1.out, HN⟩
        case measure => simp [intOf]; omega
    · obtain ⟨r1, r2, r3, r5, r6⟩ := id hr
      have hc : wr.cell? ⟨w.heap.size + 1, 0, none⟩ = some v := r2.cell (by omega)
      have hc0 := r1.cell (i := 0) (by omega)
      have hf0 := r1.frozen 0
      obtain ⟨A, cp, hv, _⟩ := r3.rd
      obtain ⟨hE, hR⟩ := floorS_end hr
      have HE : Hid (zs = floorRows 31 n) := by
        unfold Hid; rw [HZ.out, List.take_of_length_le]; simp [floorRows]; omega
      rw [HE.out] at hE
      have HEE := Lib.hid hE; have HRR := Lib.hid hR
      clear r1 r2 r3 hr hE hR
      subst hv
      go_wp2_with fail
      refine (specGridOk_any _ _ _).mono ?_
      rintro e w1 ⟨rfl, rfl⟩
      go_wp2_with fail
      refine bodyPost_ret (v := .agg #[.slice A zs.length cp]) (by have hR' := HRR.out; simp [results, Try.results106, go_sem, hR']) rfl ?_
      exact HEE.out
set_option maxRecDepth 100000 in
set_option maxHeartbeats 2000000 in
theorem specTreeFloor_at4 (n : Nat) (h1 : 1 ≤ n) (h4 : n ≤ 4) (w : World) :
    Calls Try.prog 106 #[.int .i64 4, .int .i64 n] w (RetFloor w (floorRows 127 n)) := by
  obtain ⟨i0, hi0, hz0, hz1, hz2⟩ := info_parts infoInt
  have hg : gridB 4 n = true := by
    simp only [gridB, Bool.and_eq_true, inB_iff]; omega
  go_enter Try.func106, Try.ntmps106
  go_wp2_with fail
  go_loopw [6] (fun s wr => ∃ (v : Value) (zs : List Int), zs.length ≤ 2 * n - 1 ∧ s = .int .i64 (zs.length : Int) ∧ FloorS w wr v zs ∧ Hid (zs = (floorRows 127 n).take zs.length)) (fun s _ => 2 * n - 1 - (intOf s).toNat)
  case atStart => exact ⟨.slice none 0 0, [], by simp, rfl, floorS_start w, rfl⟩
  case round =>
    obtain ⟨v, zs, hk, rfl, hr, HZ⟩ := hrel
    by_cases hlt : zs.length < 2 * n - 1
    · obtain ⟨r1, r2, r3, r5, r6⟩ := id hr
      have hc : wr.cell? ⟨w.heap.size + 1, 0, none⟩ = some v := r2.cell (by omega)
      have HR := Lib.hid hr
      have R3 := Lib.hid r3
      clear r1 r2 r3 hr
      by_cases h0 : zs.length = 0
      · have h0' : ((zs.length : Int) == 0) = true := by simp [h0]
        have HN := Lib.hid (floor_take0 127 n zs HZ.out h0); clear h0
        go_wp2_with fail
        refine (specGridOk_any _ _ _).mono ?_
        rintro e w1 ⟨rfl, rfl⟩
        go_wp2_with (at_builtin; refine wpList_append_lies _ rfl (.tmp 31) (.tmp 33) _ rfl (w.heap.size + 2) 3 i0 _ 1 8 Try.underlying31 hi0 hz0 hz1 hz2 rfl (by omega) v zs.length _ rfl (World.ownsRow.alloc R3.out _) ⟨wr.heap.size, 0, none⟩ 1 1 [.int .i64 126] rfl rfl (World.news_of_block (cs := #[.int .i64 126]) (t := 3) (fr := (0, 0)) (heap_alloc_new wr _)) (by simp [Value.oneCell']) (by omega) (by unfold maxLen; omega) (by omega) (by simp; omega) (wr.heap.size + 1) (by simp) ?_; intro gg cap w1 hown1 hgrow hat hlt1; obtain ⟨hs1, hs2, hs3⟩ := FloorS.step HR.out hown1 hgrow; have HS1 := Lib.hid hs1; clear hs1)
        go_roundw
        case rel => exact ⟨_, zs ++ [127 - 1], by simp; omega, by simp, HS1.out, HN⟩
        case measure => simp [intOf]; omega
      · have h0' : ((zs.length : Int) == 0) = false := by rw [beq_eq_false_iff_ne]; omega
        have HN := Lib.hid (floor_take1 127 n zs HZ.out (by omega) hlt); clear h0
        go_wp2_with fail
        refine (specGridOk_any _ _ _).mono ?_
        rintro e w1 ⟨rfl, rfl⟩
        go_wp2_with (at_builtin; refine wpList_append_lies _ rfl (.tmp 31) (.tmp 33) _ rfl (w.heap.size + 2) 3 i0 _ 1 8 Try.underlying31 hi0 hz0 hz1 hz2 rfl (by omega) v zs.length _ rfl (World.ownsRow.alloc R3.out _) ⟨wr.heap.size, 0, none⟩ 1 1 [.int .i64 127] rfl rfl (World.news_of_block (cs := #[.int .i64 127]) (t := 3) (fr := (0, 0)) (heap_alloc_new wr _)) (by simp [Value.oneCell']) (by omega) (by unfold maxLen; omega) (by omega) (by simp; omega) (wr.heap.size + 1) (by simp) ?_; intro gg cap w1 hown1 hgrow hat hlt1; obtain ⟨hs1, hs2, hs3⟩ := FloorS.step HR.out hown1 hgrow; have HS1 := Lib.hid hs1; clear hs1)
        go_roundw
        case rel => exact ⟨_, zs ++ [127], by simp; omega, by simp, HS1.out, HN⟩
        case measure => simp [intOf]; omega
    · obtain ⟨r1, r2, r3, r5, r6⟩ := id hr
      have hc : wr.cell? ⟨w.heap.size + 1, 0, none⟩ = some v := r2.cell (by omega)
      have hc0 := r1.cell (i := 0) (by omega)
      have hf0 := r1.frozen 0
      obtain ⟨A, cp, hv, _⟩ := r3.rd
      obtain ⟨hE, hR⟩ := floorS_end hr
      have HE : Hid (zs = floorRows 127 n) := by
        unfold Hid; rw [HZ.out, List.take_of_length_le]; simp [floorRows]; omega
      rw [HE.out] at hE
      have HEE := Lib.hid hE; have HRR := Lib.hid hR
      clear r1 r2 r3 hr hE hR
      subst hv
      go_wp2_with fail
      refine (specGridOk_any _ _ _).mono ?_
      rintro e w1 ⟨rfl, rfl⟩
      go_wp2_with fail
      refine bodyPost_ret (v := .agg #[.slice A zs.length cp]) (by have hR' := HRR.out; simp [results, Try.results106, go_sem, hR']) rfl ?_
      exact HEE.out

theorem specTreeFloor_any (a b : Int) (w : World) :
    Calls Try.prog 106 #[.int .i64 a, .int .i64 b] w (RetFloor w (floorZ a b)) := by
  cases hg : gridB a b
  · rw [show floorZ a b = [] from by rw [floorZ, hg]; rfl]
    go_enter Try.func106, Try.ntmps106
    go_wp2_with fail
    go_loopw [6] (fun s wr => s = .int .i64 0 ∧ wr = ((w.alloc (.cells #[.slice none 0 0] 39)).alloc (.cells #[.slice none 0 0] 39))) (fun _ _ => 0)
    case atStart => exact ⟨rfl, rfl⟩
    case round =>
      obtain ⟨rfl, rfl⟩ := hrel
      go_wp2_with fail
      refine (specGridOk_any _ _ _).mono ?_
      rintro e w1 ⟨rfl, rfl⟩
      go_wp2_with fail
      refine bodyPost_ret (v := .agg #[.slice none 0 0]) (by simp [results, Try.results106, go_sem]) rfl ?_
      refine ⟨.slice none 0 0, rfl, World.ownsRow_nil _ _ _ _, ?_⟩
      repeat (first | exact Below.refl _ _ | refine Below.setCell ?_ (by simp <;> omega) _ | refine Below.alloc ?_ (by simp <;> omega) _)
  · have h := hg
    simp only [gridB, Bool.and_eq_true, inB_iff] at h
    obtain ⟨⟨g1, g2⟩, g3, g4⟩ := h
    obtain ⟨n, rfl⟩ := Int.eq_ofNat_of_zero_le (show 0 ≤ b by omega)
    rcases (show a = 1 ∨ a = 2 ∨ a = 3 ∨ a = 4 by omega) with rfl | rfl | rfl | rfl
    · rw [show floorZ 1 n = floorRows 1 n from by rw [floorZ, hg]; rfl]; exact specTreeFloor_at1 n (by omega) (by omega) w
    · rw [show floorZ 2 n = floorRows 7 n from by rw [floorZ, hg]; rfl]; exact specTreeFloor_at2 n (by omega) (by omega) w
    · rw [show floorZ 3 n = floorRows 31 n from by rw [floorZ, hg]; rfl]; exact specTreeFloor_at3 n (by omega) (by omega) w
    · rw [show floorZ 4 n = floorRows 127 n from by rw [floorZ, hg]; rfl]; exact specTreeFloor_at4 n (by omega) (by omega) w
end Go.Proofs.Ytehnbalbpfmijaa

namespace Go.Proofs.Ytehnbalbpfmijaa
open Go.RowKit
set_option linter.unusedVariables false

theorem flC_tab : ((List.range 5).all fun x => (List.range 5).all fun y => !gridB x y || regOkB (floorZ x y)) = true := by decide +kernel
theorem flC_ok {a b : Int} (hg : gridB a b = true) : regOkB (floorZ a b) = true := by
  have hb : (1 ≤ a ∧ a ≤ 4) ∧ 1 ≤ b ∧ b ≤ 4 := by simpa [gridB, inB_iff] using hg
  obtain ⟨n, rfl⟩ := Int.eq_ofNat_of_zero_le (show 0 ≤ a by omega)
  obtain ⟨m, rfl⟩ := Int.eq_ofNat_of_zero_le (show 0 ≤ b by omega)
  have h := flC_tab
  rw [List.all_eq_true] at h
  have h := h n (by simp; omega)
  rw [List.all_eq_true] at h
  have h := h m (by simp; omega)
  rw [hg] at h
  simpa using h
/-- What FloorCount returns. -/
def floorC (a b : Int) : Int := if gridB a b then profZ (setZ (floorZ a b)) else 0
set_option maxHeartbeats 1000000 in
theorem FloorCount_any (a b : Int) (w : World) :
    Calls Try.prog 52 #[.int .i64 a, .int .i64 b] w fun e w' => e = .returned (.int .i64 (floorC a b)) ∧ Below w.heap.size w w' := by
  cases hg : gridB a b
  · have e0 : floorC a b = 0 := by simp [floorC, hg]
    rw [e0]; clear e0
    go_enter Try.func52, Try.ntmps52
    go_wp2_with fail
    refine (GridOk_any _ _ _).mono ?_
    rintro e w1 ⟨rfl, rfl⟩
    rw [hg]
    go_wp2_with fail
    go_ret
    exact ⟨rfl, Below.refl _ _⟩
  · have HOK := Lib.hid (flC_ok hg)
    obtain ⟨res, HRES⟩ : ∃ r, Hid (floorC a b = r) := ⟨_, rfl⟩
    have HE : Hid (cntZ9 (floorZ a b) = res) := by unfold Hid; rw [← HRES.out]; simp [cntZ9, floorC, hg, HOK.out]
    rw [HRES.out]
    have HT := Lib.hid (TreeFloor_any a b)
    generalize floorZ a b = zs at *
    clear HRES
    go_enter Try.func52, Try.ntmps52
    go_wp2_with fail
    refine (GridOk_any _ _ _).mono ?_
    rintro e w1 ⟨rfl, rfl⟩
    rw [hg]
    go_wp2_with fail
    refine (HT.out w).mono ?_
    rintro e w1 ⟨v1, rfl, ho1, hb1⟩
    have HC := Lib.hid (CountTilings_any v1 zs w1.heap.size w1 ho1.rd (Nat.le_refl _))
    rw [HE.out] at HC
    have HB1 := Lib.hid hb1
    clear ho1 hb1
    go_wp2_with fail
    refine HC.out.mono ?_
    rintro e w2 ⟨rfl, hb2⟩
    go_wp2_with fail
    go_ret
    exact ⟨rfl, HB1.out.trans (hb2.mono HB1.out.size)⟩
end Go.Proofs.Ytehnbalbpfmijaa

namespace Go.Proofs.Ytehnbalbpfmijaa
open Go.RowKit

/-! ### The plain functions -/
def lkAt (w h x y : Int) : List Lk := (if x + 1 < w then [(x, y, false)] else []) ++ (if y + 1 < h then [(x, y, true)] else [])
def lkRow (w h y : Int) : Nat → List Lk | 0 => [] | x + 1 => lkRow w h y x ++ lkAt w h x y
def lkAll (w h : Int) : Nat → List Lk | 0 => [] | y + 1 => lkAll w h y ++ lkRow w h y w.toNat
def lkFlat (w h : Nat) : Nat → List Lk | 0 => [] | k + 1 => lkFlat w h k ++ lkAt w h ((k % w : Nat) : Int) ((k / w : Nat) : Int)
def linksZ (w h : Int) : List Lk := if gridB w h then lkAll w h h.toNat else []
theorem gridB_iff (x y : Int) : gridB x y = true ↔ (1 ≤ x ∧ x ≤ 4) ∧ 1 ≤ y ∧ y ≤ 4 := by simp [gridB, inB_iff]
theorem all2 {a b : Nat} {p : Nat → Nat → Bool} (h : ((List.range a).all fun x => (List.range b).all fun y => p x y) = true) (x y : Nat) (hx : x < a) (hy : y < b) : p x y = true := by
  rw [List.all_eq_true] at h
  have := h x (by simpa using hx)
  rw [List.all_eq_true] at this
  exact this y (by simpa using hy)
theorem lk_tab : ((List.range 5).all fun w => (List.range 5).all fun h => w == 0 || h == 0 || lkFlat w h (w * h) == lkAll w h h) = true := by decide +kernel
theorem lk_same (w : Nat) (h1 : w ≤ 4) (h : Nat) (h2 : h ≤ 4) (h3 : 1 ≤ w) (h4 : 1 ≤ h) : lkFlat w h (w * h) = lkAll w h h := by
  have := all2 lk_tab w h (by omega) (by omega)
  simp only [Bool.or_eq_true, beq_iff_eq] at this
  rcases this with (e | e) | e
  · omega
  · omega
  · exact e
theorem lkAt_len (w h x y : Int) : (lkAt w h x y).length ≤ 2 := by unfold lkAt; split <;> split <;> simp
theorem lkRow_len (w h y : Int) : ∀ x, (lkRow w h y x).length ≤ 2 * x
  | 0 => by simp [lkRow]
  | x + 1 => by have := lkRow_len w h y x; have := lkAt_len w h x y; simp [lkRow]; omega
theorem linksZ_len (w h : Int) : (linksZ w h).length ≤ 32 := by
  unfold linksZ
  split
  · rename_i hg
    obtain ⟨⟨a1, a2⟩, a3, a4⟩ := (gridB_iff _ _).1 hg
    have : ∀ n : Nat, (lkAll w h n).length ≤ 8 * n := fun n => by
      induction n with
      | zero => simp [lkAll]
      | succ n ih => have := lkRow_len w h n w.toNat; simp [lkAll]; omega
    have := this h.toNat
    omega
  · simp

def RetLinks (w : World) (ls : List Lk) (e : Ending) (w' : World) : Prop := ∃ v, e = .returned v ∧ OwnF elLink w' w.heap.size v ls ∧ Below w.heap.size w w'

set_option maxHeartbeats 4000000 in
theorem LinksOf_yes (n m : Nat) (w : World) (hg : gridB n m = true) :
    Calls Try.prog 111 #[.int .i64 n, .int .i64 m] w (RetLinks w (lkAll n m m)) := by
  obtain ⟨⟨hn1, hn2⟩, hm1, hm2⟩ := (gridB_iff _ _).1 hg
  have HA0 : Hid (Acc elLink w w.heap.size (w.alloc (.cells #[] 68)) (.slice (some ⟨w.heap.size, 0, none⟩) 0 0) []) := Acc.start w
  go_enter Try.func111, Try.ntmps111
  go_wp2_with fail
  refine (GridOk_any _ _ _).mono ?_
  rintro e w1 ⟨rfl, rfl⟩
  rw [hg]
  go_wp2_with fail
  go_loopw [5, 14] (fun o s wr => ∃ (y : Nat) (v : Value) (xs : List Lk), y ≤ m ∧ s = .int .i64 y ∧ o = v ∧ Hid (Acc elLink w w.heap.size wr v xs) ∧ Hid (xs = lkAll n m y) ∧ xs.length ≤ 8 * y) (fun _ s _ => m - (intOf s).toNat)
  case atStart => exact ⟨0, _, [], Nat.zero_le _, rfl, rfl, HA0, rfl, Nat.le_refl _⟩
  case round =>
    obtain ⟨y, v0, xs0, hy, rfl, rfl, HA, HX, hxl⟩ := hrel
    by_cases hlt : y < m
    · have hty : decide ((y : Int) < (m : Int)) = true := by simp only [decide_eq_true_eq]; omega
      have hy1 : (0 : Int) ≤ (y : Int) := by omega
      have hy2 : (y : Int) < 4 := by omega
      go_wp2_with fail
      go_loopw [5, 18] (fun o s wr => ∃ (x : Nat) (v : Value) (xs : List Lk), x ≤ n ∧ s = .int .i64 x ∧ o = v ∧ Hid (Acc elLink w w.heap.size wr v xs) ∧ Hid (xs = xs0 ++ lkRow n m y x) ∧ xs.length ≤ 8 * y + 2 * x) (fun _ s _ => n - (intOf s).toNat)
      case atStart => exact ⟨0, _, xs0, Nat.zero_le _, rfl, rfl, HA, by simp [Hid, lkRow], by omega⟩
      case round =>
        obtain ⟨x, v1, xs1, hx, rfl, rfl, HA1, HX1, hxl1⟩ := hrel
        by_cases hlx : x < n
        · have htx : decide ((x : Int) < (n : Int)) = true := by simp only [decide_eq_true_eq]; omega
          have hx1 : (0 : Int) ≤ (x : Int) := by omega
          have hx2 : (x : Int) < 4 := by omega
          have HS : Hid (xs0 ++ lkRow n m y (x + 1) = xs1 ++ lkAt n m x y) := by unfold Hid; rw [HX1.out, lkRow, List.append_assoc]
          by_cases c1 : (x : Int) + 1 < (n : Int) <;> by_cases c2 : (y : Int) + 1 < (m : Int)
          · have HL : Hid (lkAt n m x y = [((x : Int), (y : Int), false)] ++ [((x : Int), (y : Int), true)]) := by unfold Hid lkAt; rw [if_pos c1, if_pos c2]
            go_wp2_with (at_builtin; first
              | (refine wpList_push okLink rfl _ _ rfl HA1.out rfl ((x : Int), (y : Int), false) _ rfl _ rfl (by simp) (by omega) ?_; intro u2 w2 HA2 HG2)
              | (refine wpList_push okLink rfl _ _ rfl HA2.out rfl ((x : Int), (y : Int), true) _ rfl _ rfl (by simp) (by simp; omega) ?_; intro u3 w3 HA3 HG3))
            go_roundw
            case rel => exact ⟨x + 1, _, _, by omega, by go_num, rfl, HA3, by (unfold Hid; rw [HS.out, HL.out, List.append_assoc]), by simp; omega⟩
            case measure => simp [intOf]; omega
          · have HL : Hid (lkAt n m x y = [((x : Int), (y : Int), false)]) := by unfold Hid lkAt; rw [if_pos c1, if_neg c2]; rfl
            go_wp2_with (at_builtin; refine wpList_push okLink rfl _ _ rfl HA1.out rfl ((x : Int), (y : Int), false) _ rfl _ rfl (by simp) (by omega) ?_; intro u2 w2 HA2 HG2)
            go_roundw
            case rel => exact ⟨x + 1, _, _, by omega, by go_num, rfl, HA2, by (unfold Hid; rw [HS.out, HL.out]), by simp; omega⟩
            case measure => simp [intOf]; omega
          · have HL : Hid (lkAt n m x y = [((x : Int), (y : Int), true)]) := by unfold Hid lkAt; rw [if_neg c1, if_pos c2]; rfl
            go_wp2_with (at_builtin; refine wpList_push okLink rfl _ _ rfl HA1.out rfl ((x : Int), (y : Int), true) _ rfl _ rfl (by simp) (by omega) ?_; intro u2 w2 HA2 HG2)
            go_roundw
            case rel => exact ⟨x + 1, _, _, by omega, by go_num, rfl, HA2, by (unfold Hid; rw [HS.out, HL.out]), by simp; omega⟩
            case measure => simp [intOf]; omega
          · have HL : Hid (lkAt n m x y = []) := by unfold Hid lkAt; rw [if_neg c1, if_neg c2]; rfl
            go_wp2_with fail
            go_roundw
            case rel => exact ⟨x + 1, _, _, by omega, by go_num, rfl, HA1, by (unfold Hid; rw [HS.out, HL.out, List.append_nil]), by omega⟩
            case measure => simp [intOf]; omega
        · have HK : Hid (xs1 = lkAll n m (y + 1)) := by unfold Hid; rw [HX1.out, HX.out, lkAll, show x = ((n : Int)).toNat by omega]
          go_wp2_with fail
          go_roundw
          case rel => exact ⟨y + 1, _, _, by omega, by go_num, rfl, HA1, HK, by omega⟩
          case measure => simp [intOf]; omega
    · have HK : Hid (xs0 = lkAll n m m) := by unfold Hid; rw [HX.out, show y = m by omega]
      go_wp2_with fail
      go_ret
      exact ⟨_, rfl, by rw [← HK.out]; exact HA.out.1, HA.out.2.1⟩

theorem LinksOf_any (a b : Int) (w : World) :
    Calls Try.prog 111 #[.int .i64 a, .int .i64 b] w (RetLinks w (linksZ a b)) := by
  cases hg : gridB a b
  · have e0 : linksZ a b = [] := by simp [linksZ, hg]
    rw [e0]; clear e0
    go_enter Try.func111, Try.ntmps111
    go_wp2_with fail
    refine (GridOk_any _ _ _).mono ?_
    rintro e w1 ⟨rfl, rfl⟩
    rw [hg]
    go_wp2_with fail
    go_ret
    exact ⟨_, rfl, OwnF.nil, Below.refl _ _⟩
  · have hb := (gridB_iff _ _).1 hg
    obtain ⟨n, rfl⟩ := Int.eq_ofNat_of_zero_le (show 0 ≤ a by omega)
    obtain ⟨m, rfl⟩ := Int.eq_ofNat_of_zero_le (show 0 ≤ b by omega)
    have e0 : linksZ n m = lkAll n m m := by simp [linksZ, hg]
    rw [e0]
    exact LinksOf_yes n m w hg

set_option maxHeartbeats 4000000 in
theorem specLinksOf_yes (n m : Nat) (w : World) (hg : gridB n m = true) :
    Calls Try.prog 107 #[.int .i64 n, .int .i64 m] w (RetLinks w (lkAll n m m)) := by
  obtain ⟨⟨hn1, hn2⟩, hm1, hm2⟩ := (gridB_iff _ _).1 hg
  have HA0 : Hid (Acc elLink w w.heap.size (w.alloc (.cells #[] 68)) (.slice (some ⟨w.heap.size, 0, none⟩) 0 0) []) := Acc.start w
  have hnm : n * m ≤ 16 := Nat.mul_le_mul (show n ≤ 4 by omega) (show m ≤ 4 by omega)
  have HNM : Hid (lkFlat n m (n * m) = lkAll n m m) := lk_same n (by omega) m (by omega) (by omega) (by omega)
  generalize hN : n * m = N at *
  have HN : Hid (((n : Int) * (m : Int)) = (N : Int)) := by unfold Hid; rw [← hN, Int.natCast_mul]
  have HN2 := Lib.hid hN
  clear hN
  go_enter Try.func107, Try.ntmps107
  go_wp2_with fail
  go_loopw [5, 6] (fun o s wr => ∃ (k : Nat) (v : Value) (xs : List Lk), k ≤ N ∧ s = .int .i64 k ∧ o = v ∧ Hid (Acc elLink w w.heap.size wr v xs) ∧ Hid (xs = lkFlat n m k) ∧ xs.length ≤ 2 * k) (fun _ s _ => N - (intOf s).toNat)
  case atStart => exact ⟨0, _, [], Nat.zero_le _, rfl, rfl, HA0, rfl, Nat.le_refl _⟩
  case round =>
    obtain ⟨k, v0, xs0, hk, rfl, rfl, HA, HX, hxl⟩ := hrel
    have hw : IntKind.i64.wrap ((n : Int) * (m : Int)) = (N : Int) := by rw [HN.out]; exact IntWalk.i64_in _ (by omega)
    have hk1 : (0 : Int) ≤ (k : Int) := by omega
    by_cases hlt : k < N
    · have htk : decide ((k : Int) < (N : Int)) = true := by simp only [decide_eq_true_eq]; omega
      have hq : k / n < m := (Nat.div_lt_iff_lt_mul (by omega)).2 (by have := HN2.out; rw [Nat.mul_comm] at this; omega)
      have hr : k % n < n := Nat.mod_lt _ (by omega)
      generalize hQ : k / n = q at *
      generalize hR : k % n = r at *
      have hq1 : (k : Int) / (n : Int) = (q : Int) := by rw [← hQ, Int.natCast_ediv]
      have hr1 : (k : Int) % (n : Int) = (r : Int) := by rw [← hR, Int.natCast_emod]
      have HS : Hid (lkFlat n m (k + 1) = xs0 ++ lkAt n m r q) := by unfold Hid; rw [HX.out, lkFlat, hQ, hR]
      clear hQ hR
      by_cases c1 : (r : Int) + 1 < (n : Int) <;> by_cases c2 : (q : Int) + 1 < (m : Int)
      · have HL : Hid (lkAt n m r q = [((r : Int), (q : Int), false)] ++ [((r : Int), (q : Int), true)]) := by unfold Hid lkAt; rw [if_pos c1, if_pos c2]
        go_wp2_with (first
          | (go_at_call 105; refine (specGridOk_any _ _ _).mono ?_; rintro e w1 ⟨rfl, rfl⟩; rw [hg])
          | (at_builtin; refine wpList_push okLink rfl _ _ rfl HA.out rfl ((r : Int), (q : Int), false) _ rfl _ rfl (by simp) (by omega) ?_; intro u2 w2 HA2 HG2)
          | (at_builtin; refine wpList_push okLink rfl _ _ rfl HA2.out rfl ((r : Int), (q : Int), true) _ rfl _ rfl (by simp) (by simp; omega) ?_; intro u3 w3 HA3 HG3))
        go_roundw
        case rel => exact ⟨k + 1, _, _, by omega, by go_num, rfl, HA3, by (unfold Hid; rw [HS.out, HL.out, List.append_assoc]), by simp; omega⟩
        case measure => simp [intOf]; omega
      · have HL : Hid (lkAt n m r q = [((r : Int), (q : Int), false)]) := by unfold Hid lkAt; rw [if_pos c1, if_neg c2]; rfl
        go_wp2_with (first
          | (go_at_call 105; refine (specGridOk_any _ _ _).mono ?_; rintro e w1 ⟨rfl, rfl⟩; rw [hg])
          | (at_builtin; refine wpList_push okLink rfl _ _ rfl HA.out rfl ((r : Int), (q : Int), false) _ rfl _ rfl (by simp) (by omega) ?_; intro u2 w2 HA2 HG2))
        go_roundw
        case rel => exact ⟨k + 1, _, _, by omega, by go_num, rfl, HA2, by (unfold Hid; rw [HS.out, HL.out]), by simp; omega⟩
        case measure => simp [intOf]; omega
      · have HL : Hid (lkAt n m r q = [((r : Int), (q : Int), true)]) := by unfold Hid lkAt; rw [if_neg c1, if_pos c2]; rfl
        go_wp2_with (first
          | (go_at_call 105; refine (specGridOk_any _ _ _).mono ?_; rintro e w1 ⟨rfl, rfl⟩; rw [hg])
          | (at_builtin; refine wpList_push okLink rfl _ _ rfl HA.out rfl ((r : Int), (q : Int), true) _ rfl _ rfl (by simp) (by omega) ?_; intro u2 w2 HA2 HG2))
        go_roundw
        case rel => exact ⟨k + 1, _, _, by omega, by go_num, rfl, HA2, by (unfold Hid; rw [HS.out, HL.out]), by simp; omega⟩
        case measure => simp [intOf]; omega
      · have HL : Hid (lkAt n m r q = []) := by unfold Hid lkAt; rw [if_neg c1, if_neg c2]; rfl
        go_wp2_with (go_at_call 105; refine (specGridOk_any _ _ _).mono ?_; rintro e w1 ⟨rfl, rfl⟩; rw [hg])
        go_roundw
        case rel => exact ⟨k + 1, _, _, by omega, by go_num, rfl, HA, by (unfold Hid; rw [HS.out, HL.out, List.append_nil]), by omega⟩
        case measure => simp [intOf]; omega
    · have HK : Hid (xs0 = lkAll n m m) := by unfold Hid; rw [HX.out, show k = N by omega]; exact HNM.out
      go_wp2_with (go_at_call 105; refine (specGridOk_any _ _ _).mono ?_; rintro e w1 ⟨rfl, rfl⟩; rw [hg])
      go_ret
      exact ⟨_, rfl, by rw [← HK.out]; exact HA.out.1, HA.out.2.1⟩

theorem specLinksOf_any (a b : Int) (w : World) :
    Calls Try.prog 107 #[.int .i64 a, .int .i64 b] w (RetLinks w (linksZ a b)) := by
  cases hg : gridB a b
  · have e0 : linksZ a b = [] := by simp [linksZ, hg]
    rw [e0]; clear e0
    have HA0 : Hid (Acc elLink w w.heap.size (w.alloc (.cells #[] 68)) (.slice (some ⟨w.heap.size, 0, none⟩) 0 0) []) := Acc.start w
    go_enter Try.func107, Try.ntmps107
    go_wp2_with fail
    go_loopw [5, 6] (fun o s wr => o = .slice (some ⟨w.heap.size, 0, none⟩) 0 0 ∧ s = .int .i64 0 ∧ wr = w.alloc (.cells #[] 68)) (fun _ _ _ => 0)
    case atStart => exact ⟨rfl, rfl, rfl⟩
    case round =>
      obtain ⟨rfl, rfl, rfl⟩ := hrel
      go_wp2_with (go_at_call 105; refine (specGridOk_any _ _ _).mono ?_; rintro e w1 ⟨rfl, rfl⟩; rw [hg])
      go_ret
      exact ⟨_, rfl, HA0.out.1, HA0.out.2.1⟩
  · have hb := (gridB_iff _ _).1 hg
    obtain ⟨n, rfl⟩ := Int.eq_ofNat_of_zero_le (show 0 ≤ a by omega)
    obtain ⟨m, rfl⟩ := Int.eq_ofNat_of_zero_le (show 0 ≤ b by omega)
    have e0 : linksZ n m = lkAll n m m := by simp [linksZ, hg]
    rw [e0]
    exact specLinksOf_yes n m w hg
end Go.Proofs.Ytehnbalbpfmijaa

namespace Go.Proofs.Ytehnbalbpfmijaa
open Go.RowKit

def postA (wd : Int) (l : Lk) : Int := l.2.1 * wd + l.1
def postB (wd : Int) (l : Lk) : Int := if l.2.2 then postA wd l + wd else postA wd l + 1
theorem mul_bdP {a b A B : Int} (h1 : 0 ≤ a) (h2 : a ≤ A) (h3 : 0 ≤ b) (h4 : b ≤ B) : 0 ≤ a * b ∧ a * b ≤ A * B :=
  ⟨Int.mul_nonneg h1 h3, Int.mul_le_mul h2 h4 h3 (by omega)⟩
theorem posts_any (wd x y : Int) (d : Bool) (w : World) (h1 : 0 ≤ x) (h2 : x ≤ 64) (h3 : 0 ≤ y) (h4 : y ≤ 64) (h5 : 0 ≤ wd) (h6 : wd ≤ 64) :
    Calls Try.prog 151 #[triV x y d, .int .i64 wd] w fun e w' => e = .returned (.tuple #[.int .i64 (postA wd (x, y, d)), .int .i64 (postB wd (x, y, d))]) ∧ Below w.heap.size w w' := by
  obtain ⟨m1, m2⟩ := mul_bdP h3 h4 h5 h6
  have m3 : y * wd + x ≤ 5000 := by omega
  have m4 : 0 ≤ y * wd + x := by omega
  cases d
  all_goals
    go_enter Try.func151, Try.ntmps151
    go_wp2
    go_ret2
    exact ⟨rfl, (Below.refl _ _).alloc (by (try simp) <;> omega) _⟩
theorem l23Ends_any (wd x y : Int) (d : Bool) (w : World) (h1 : 0 ≤ x) (h2 : x ≤ 64) (h3 : 0 ≤ y) (h4 : y ≤ 64) (h5 : 0 ≤ wd) (h6 : wd ≤ 64) :
    Calls Try.prog 117 #[.int .i64 wd, triV x y d] w fun e w' => e = .returned (.tuple #[.int .i64 (postA wd (x, y, d)), .int .i64 (postB wd (x, y, d))]) ∧ Below w.heap.size w w' := by
  obtain ⟨m1, m2⟩ := mul_bdP h3 h4 h5 h6
  have m3 : y * wd + x ≤ 5000 := by omega
  have m4 : 0 ≤ y * wd + x := by omega
  cases d
  all_goals
    go_enter Try.func117, Try.ntmps117
    go_wp2
    go_ret2
    exact ⟨rfl, (Below.refl _ _).alloc (by (try simp) <;> omega) _⟩
end Go.Proofs.Ytehnbalbpfmijaa

namespace Go.Proofs.Ytehnbalbpfmijaa
open Go.RowKit

def elZ (m : List (List Int)) (i j : Nat) : Int := el (rw' m i) j
def stepE (m : List (List Int)) (b : Int) (k i j : Nat) : List (List Int) :=
  m.set i ((rw' m i).set j (wrap64 ((wrap64 (wrap64 (elZ m i j * elZ m k k) - wrap64 (elZ m i k * elZ m k j))).tdiv b)))
def rowE (m : List (List Int)) (b : Int) (k i : Nat) : Nat → List (List Int) | 0 => m | j + 1 => if j ≤ k then m else stepE (rowE m b k i j) b k i j
def allE (n : Nat) (m : List (List Int)) (b : Int) (k : Nat) : Nat → List (List Int) | 0 => m | i + 1 => if i ≤ k then m else rowE (allE n m b k i) b k i n
def pivG (m : List (List Int)) (k n : Nat) : Nat → Nat → Nat | 0, p => p | f + 1, p => if p < n then (if elZ m p k == 0 then pivG m k n f (p + 1) else p) else p
def swp (m : List (List Int)) (i k : Nat) : List (List Int) := (m.set i (rw' m k)).set k (rw' m i)
def detFin (n : Nat) (m : List (List Int)) (s : Int) : Int := if n = 0 then 1 else wrap64 (s * elZ m (n - 1) (n - 1))
def detGo (n : Nat) : Nat → Nat → List (List Int) → Int → Int → Int
  | 0, _, m, s, _ => detFin n m s
  | f + 1, k, m, s, b =>
    if k + 1 < n then
      (if pivG m k n (n - k) k = n then 0
       else if pivG m k n (n - k) k = k then detGo n f (k + 1) (allE n m b k n) s (elZ m k k)
       else detGo n f (k + 1) (allE n (swp m (pivG m k n (n - k) k) k) b k n) (wrap64 (-s)) (elZ (swp m (pivG m k n (n - k) k) k) k k))
    else detFin n m s
def detZ (m : List (List Int)) : Int := detGo m.length m.length 0 m 1 1

def Shape (n : Nat) (m : List (List Int)) : Prop := m.length = n ∧ ∀ i, i < n → (rw' m i).length = n
theorem Shape.set {n : Nat} {m : List (List Int)} (h : Shape n m) {i : Nat} (hi : i < n) {zs : List Int} (hz : zs.length = n) : Shape n (m.set i zs) := by
  refine ⟨by rw [List.length_set]; exact h.1, fun t ht => ?_⟩
  rw [rw_set m i zs t (by rw [h.1]; exact hi)]
  split
  · exact hz
  · exact h.2 t ht
theorem Shape.step {n : Nat} {m : List (List Int)} (h : Shape n m) (b : Int) (k : Nat) {i : Nat} (hi : i < n) (j : Nat) : Shape n (stepE m b k i j) := h.set hi (by rw [List.length_set]; exact h.2 i hi)
theorem Shape.swp {n : Nat} {m : List (List Int)} (h : Shape n m) {i k : Nat} (hi : i < n) (hk : k < n) : Shape n (swp m i k) := (h.set hi (h.2 k hk)).set hk (h.2 i hi)
theorem stepE_row {n : Nat} {m : List (List Int)} (h : Shape n m) (b : Int) (k : Nat) {i : Nat} (hi : i < n) (j t : Nat) (ht : t ≠ i) : rw' (stepE m b k i j) t = rw' m t := by
  rw [stepE, rw_set m i _ t (by rw [h.1]; exact hi), if_neg ht]
theorem rowE_facts {n : Nat} {m : List (List Int)} (h : Shape n m) (b : Int) (k : Nat) {i : Nat} (hi : i < n) : ∀ j, Shape n (rowE m b k i j) ∧ ∀ t, t ≠ i → rw' (rowE m b k i j) t = rw' m t
  | 0 => ⟨h, fun _ _ => rfl⟩
  | j + 1 => by
    obtain ⟨h1, h2⟩ := rowE_facts h b k hi j
    rw [rowE]
    split
    · exact ⟨h, fun _ _ => rfl⟩
    · exact ⟨h1.step b k hi j, fun t ht => by rw [stepE_row h1 b k hi j t ht]; exact h2 t ht⟩
theorem allE_facts {n : Nat} {m : List (List Int)} (h : Shape n m) (b : Int) (k : Nat) : ∀ i, i ≤ n → Shape n (allE n m b k i) ∧ ∀ t, t ≤ k → rw' (allE n m b k i) t = rw' m t
  | 0, _ => ⟨h, fun _ _ => rfl⟩
  | i + 1, hi => by
    obtain ⟨h1, h2⟩ := allE_facts h b k i (by omega)
    rw [allE]
    split
    · exact ⟨h, fun _ _ => rfl⟩
    · obtain ⟨h3, h4⟩ := rowE_facts h1 b k (i := i) (by omega) n
      exact ⟨h3, fun t ht => by rw [h4 t (by omega)]; exact h2 t ht⟩
theorem pivG_bd (m : List (List Int)) (k n : Nat) : ∀ f p, p ≤ n → p ≤ pivG m k n f p ∧ pivG m k n f p ≤ n
  | 0, p, h => ⟨Nat.le_refl _, h⟩
  | f + 1, p, h => by
    rw [pivG]
    split
    · split
      · have := pivG_bd m k n f (p + 1) (by omega); omega
      · exact ⟨Nat.le_refl _, h⟩
    · exact ⟨Nat.le_refl _, h⟩
theorem pivG_ne (m : List (List Int)) (k n : Nat) : ∀ f p, n ≤ p + f → pivG m k n f p < n → elZ m (pivG m k n f p) k ≠ 0
  | 0, p, h, hp => by rw [pivG] at hp; omega
  | f + 1, p, h, hp => by
    rw [pivG] at hp ⊢
    split at hp
    · rename_i hpn
      rw [if_pos hpn]
      split at hp
      · rename_i hz
        rw [if_pos hz]; exact pivG_ne m k n f (p + 1) (by omega) hp
      · rename_i hz
        rw [if_neg hz]; simpa using hz
    · omega
theorem swp_kk {n : Nat} {m : List (List Int)} (h : Shape n m) {p k : Nat} (hk : k < n) : elZ (swp m p k) k k = elZ m p k := by
  unfold elZ swp
  rw [rw_set _ k _ k (by rw [List.length_set, h.1]; exact hk), if_pos rfl]
end Go.Proofs.Ytehnbalbpfmijaa

namespace Go.Proofs.Ytehnbalbpfmijaa
open Go.RowKit

/-- The copy that determinant works on. -/
def DRel (w wr : World) (g cap n : Nat) (m : List (List Int)) : Prop := OwnD wr w.heap.size (.slice (some ⟨g, 0, none⟩) n cap) m ∧ Below w.heap.size w wr ∧ Shape n m
theorem DRel.store {w wr : World} {g cap n : Nat} {m : List (List Int)} (h : DRel w wr g cap n m) {gi j : Nat} {v : Value} {m' : List (List Int)} (hg : w.heap.size ≤ gi) (ho : OwnD (wr.setCell ⟨gi, j, none⟩ v) w.heap.size (.slice (some ⟨g, 0, none⟩) n cap) m') (hs : Shape n m') :
    DRel w (wr.setCell ⟨gi, j, none⟩ v) g cap n m' := ⟨ho, h.2.1.setCell hg _, hs⟩
theorem DRel.below {w wr w1 : World} {g cap n : Nat} {m : List (List Int)} (h : DRel w wr g cap n m) (hb : Below wr.heap.size wr w1) : DRel w w1 g cap n m := ⟨h.1.below hb, h.2.1.trans (hb.mono h.2.1.size), h.2.2⟩
theorem DRel.row {w wr : World} {g cap n : Nat} {m : List (List Int)} (h : DRel w wr g cap n m) {i : Nat} (hi : i < n) :
    ∃ gi ci, wr.cell? ⟨g, i, none⟩ = some (.slice (some ⟨gi, 0, none⟩) n ci) ∧ w.heap.size ≤ gi ∧ n ≤ ci ∧ ci ≤ maxLen ∧ (∀ j, j < n → wr.cell? ⟨gi, j, none⟩ = some (.int .i64 (elZ m i j))) ∧
      (∀ j, wr.frozen? ⟨gi, j, none⟩ = false) ∧ (∀ w', Below wr.heap.size wr w' → ∀ j z, j < n → DRel w (w'.setCell ⟨gi, j, none⟩ (.int .i64 z)) g cap n (m.set i ((rw' m i).set j z))) ∧
      ∃ cur, wr.heap[gi]? = some (.cells cur 3 (0, 0)) := by
  have h0 := h
  obtain ⟨h1, h2, h3, h4⟩ := h
  have hl := h4 i hi
  obtain ⟨gi, ci, c1, c2, c3, c4, c5, c6, c7, c8⟩ := h1.row (i := i) (by omega) (by omega)
  rw [hl] at c1 c3 c5 c7
  refine ⟨gi, ci, c1, c2, c3, c4, c5, c6, fun w' hb j z hj => ?_, c8⟩
  obtain ⟨d1, d2, d3, d4⟩ := h0.below hb
  obtain ⟨gj, cj, e1, e2, e3, e4, e5, e6, e7, _⟩ := d1.row (i := i) (by omega) (by omega)
  have hgl : g < wr.heap.size := World.ownsRow.lt h1.choose_spec.1 g rfl |>.2
  have hc := (hb.cell (p := ⟨g, i, none⟩) hgl).trans c1
  rw [e1] at hc
  obtain ⟨rfl⟩ : gj = gi := by simp only [Option.some.injEq, Value.slice.injEq, Addr.mk.injEq] at hc; exact hc.1.1
  exact ⟨e7 j z (by omega), d2.setCell e2 _, Shape.set ⟨d3, d4⟩ hi (by rw [List.length_set]; exact d4 i hi)⟩

/-- Two rows lie apart, and apart from the outer slice; a store into the one is seen in no cell beside its own. -/
theorem DRel.pair {w wr : World} {g cap n : Nat} {m : List (List Int)} (h : DRel w wr g cap n m) {i k j : Nat} (hi : i < n) (hk : k < n) (hj : j < n) (hik : i ≠ k) (hjk : j ≠ k) :
    ∃ gi ci gk ck, n ≤ ci ∧ ci ≤ maxLen ∧ n ≤ ck ∧ ck ≤ maxLen ∧
      (wr.cell? ⟨g, i, none⟩ = some (.slice (some ⟨gi, 0, none⟩) n ci) ∧ wr.cell? ⟨g, k, none⟩ = some (.slice (some ⟨gk, 0, none⟩) n ck) ∧ wr.cell? ⟨gi, k, none⟩ = some (.int .i64 (elZ m i k)) ∧
        wr.cell? ⟨gk, k, none⟩ = some (.int .i64 (elZ m k k)) ∧ wr.cell? ⟨gk, j, none⟩ = some (.int .i64 (elZ m k j))) ∧
      wr.cell? ⟨gi, j, none⟩ = some (.int .i64 (elZ m i j)) ∧ wr.frozen? ⟨gi, j, none⟩ = false ∧
      ∀ z, (((wr.setCell ⟨gi, j, none⟩ (.int .i64 z)).drew.cell? ⟨g, i, none⟩ = some (.slice (some ⟨gi, 0, none⟩) n ci) ∧ (wr.setCell ⟨gi, j, none⟩ (.int .i64 z)).drew.cell? ⟨g, k, none⟩ = some (.slice (some ⟨gk, 0, none⟩) n ck) ∧ (wr.setCell ⟨gi, j, none⟩ (.int .i64 z)).drew.cell? ⟨gi, k, none⟩ = some (.int .i64 (elZ m i k)) ∧
        (wr.setCell ⟨gi, j, none⟩ (.int .i64 z)).drew.cell? ⟨gk, k, none⟩ = some (.int .i64 (elZ m k k)) ∧ (wr.setCell ⟨gi, j, none⟩ (.int .i64 z)).drew.cell? ⟨gk, j, none⟩ = some (.int .i64 (elZ m k j))) ∧
        DRel w (wr.setCell ⟨gi, j, none⟩ (.int .i64 z)).drew g cap n (m.set i ((rw' m i).set j z))) := by
  obtain ⟨⟨vs, h1, h2, h3, h4⟩, hb, hs1, hs2⟩ := id h
  obtain ⟨gi, ci, r1, r2, r3, r4, r5, r6, r7, _⟩ := h.row hi
  obtain ⟨gk, ck, s1, s2, s3, s4, s5, s6, s7, _⟩ := h.row hk
  have hl : vs.length = m.length := by have := h1.1; omega
  have gvi : vs[i]? = some (.slice (some ⟨gi, 0, none⟩) n ci) := by rw [← World.ownsRow.cellAt (by obtain ⟨rfl, _⟩ := OwnD.slice h.1 (by omega); exact h1) i (by omega)]; exact r1
  have gvk : vs[k]? = some (.slice (some ⟨gk, 0, none⟩) n ck) := by rw [← World.ownsRow.cellAt (by obtain ⟨rfl, _⟩ := OwnD.slice h.1 (by omega); exact h1) k (by omega)]; exact s1
  have n1 : g ≠ gi := fun e => h4 i _ gi gvi rfl (by rw [e]; rfl)
  have n2 : gi ≠ gk := fun e => h3 i k _ _ gi hik gvi gvk rfl (by rw [e]; rfl)
  have hgl : g < wr.heap.size := (World.ownsRow.lt h1 g rfl).2
  have hkl : gk < wr.heap.size := (World.ownsRow.lt (h2 k _ gvk) gk rfl).2
  refine ⟨gi, ci, gk, ck, r3, r4, s3, s4, ⟨r1, s1, r5 k hk, s5 k hk, s5 j hj⟩, r5 j hj, r6 j, fun z => ?_⟩
  have hst : wr.grownBy (wr.setCell ⟨gi, j, none⟩ (.int .i64 z)) (some gi) := by
    have ho := h2 i _ gvi
    unfold OwnI at ho
    rw [hs2 i hi] at ho
    exact (World.ownsRow.stored ho j _).2
  have hd := r7 wr (Below.refl _ _) j z hj
  have hfar : ∀ b o, b < wr.heap.size → b ≠ gi → (wr.setCell ⟨gi, j, none⟩ (.int .i64 z)).cell? ⟨b, o, none⟩ = wr.cell? ⟨b, o, none⟩ := fun b o hb hne => hst.cell_far ⟨b, o, none⟩ hb (fun e => hne (Option.some.inj e))
  refine ⟨⟨(hfar g i hgl n1).trans r1, (hfar g k hgl n1).trans s1, ?_, (hfar gk k hkl (Ne.symm n2)).trans (s5 k hk), (hfar gk j hkl (Ne.symm n2)).trans (s5 j hj)⟩, hd.below ((Below.refl _ _).drew)⟩
  obtain ⟨gj, cj, e1, _, _, _, e5, _⟩ := hd.row hi
  rw [hfar g i hgl n1, r1] at e1
  obtain rfl : gi = gj := by simp only [Option.some.injEq, Value.slice.injEq, Addr.mk.injEq] at e1; exact e1.1.1
  have e6 := e5 k hk
  have he : elZ (m.set i ((rw' m i).set j z)) i k = elZ m i k := by
    unfold elZ
    rw [rw_set m i _ i (by omega), if_pos rfl]
    unfold el
    rw [List.getD_eq_getElem?_getD, List.getD_eq_getElem?_getD, List.getElem?_set, if_neg hjk]
  rw [he] at e6
  exact e6

theorem DRel.swap {w wr : World} {g cap n : Nat} {m : List (List Int)} (h : DRel w wr g cap n m) {i k : Nat} (hi : i < n) (hk : k < n) (hne : i ≠ k) {u1 u2 : Value}
    (c1 : wr.cell? ⟨g, i, none⟩ = some u1) (c2 : wr.cell? ⟨g, k, none⟩ = some u2) :
    DRel w ((wr.setCell ⟨g, i, none⟩ u2).setCell ⟨g, k, none⟩ u1) g cap n (swp m i k) ∧ ∀ j, wr.frozen? ⟨g, j, none⟩ = false := by
  obtain ⟨h1, h2, h3⟩ := h
  obtain ⟨s1, s2⟩ := h1.swap (i := i) (k := k) (by rw [h3.1]; exact hi) (by rw [h3.1]; exact hk) hne c1 c2
  have hg := (h1.slice (by rw [h3.1]; omega)).2
  exact ⟨⟨s1, (h2.setCell hg _).setCell hg _, h3.swp hi hk⟩, s2⟩
end Go.Proofs.Ytehnbalbpfmijaa

namespace Go.Proofs.Ytehnbalbpfmijaa
open Go.RowKit

def setM (m : List (List Int)) (a b : Nat) (z : Int) : List (List Int) := m.set a ((rw' m a).set b z)
def incM (m : List (List Int)) (a b : Nat) (d : Int) : List (List Int) := setM m a b (wrap64 (elZ m a b + d))
def decM (m : List (List Int)) (a b : Nat) : List (List Int) := setM m a b (wrap64 (elZ m a b - 1))
def lkN (wd : Nat) (l : Lk) : Nat × Nat := ((postA wd l).toNat, (postB wd l).toNat)
def stepT (m : List (List Int)) (p : Nat × Nat) : List (List Int) := decM (decM (incM (incM m p.1 p.1 1) p.2 p.2 1) p.1 p.2) p.2 p.1
def stepS (m : List (List Int)) (p : Nat × Nat) : List (List Int) :=
  if 0 < p.1 then incM (setM (setM (incM m (p.1 - 1) (p.1 - 1) 1) (p.1 - 1) (p.2 - 1) (-1)) (p.2 - 1) (p.1 - 1) (-1)) (p.2 - 1) (p.2 - 1) 1 else incM m (p.2 - 1) (p.2 - 1) 1
def zeroM (n : Nat) : List (List Int) := List.replicate n (List.replicate n 0)
def wholeT (w h : Nat) (ls : List Lk) : List (List Int) := ls.foldl (fun m l => stepT m (lkN w l)) (zeroM (w * h))
def wholeS (w h : Nat) (ls : List Lk) : List (List Int) := ls.foldl (fun m l => stepS m (lkN w l)) (zeroM (w * h - 1))
def cutM (m : List (List Int)) : List (List Int) := (m.drop 1).map (·.drop 1)
def treeZ (w h : Int) : List (List Int) := if gridB w h then wholeS w.toNat h.toNat (linksZ w h) else []
def lkIn (w n : Nat) (l : Lk) : Bool := decide (0 ≤ l.1 ∧ l.1 ≤ 4 ∧ 0 ≤ l.2.1 ∧ l.2.1 ≤ 4 ∧ 0 ≤ postA w l ∧ postA w l < postB w l ∧ postB w l < n)
theorem tree_tab : ((List.range 5).all fun w => (List.range 5).all fun h => w == 0 || h == 0 ||
    ((lkAll w h h).all (lkIn w (w * h)) && (cutM (wholeT w h (lkAll w h h)) == wholeS w h (lkAll w h h)))) = true := by decide +kernel
theorem tree_facts (n m : Nat) (hg : gridB n m = true) : (∀ l ∈ linksZ n m, lkIn n (n * m) l = true) ∧ cutM (wholeT n m (linksZ n m)) = treeZ n m := by
  obtain ⟨⟨a1, a2⟩, a3, a4⟩ := (gridB_iff _ _).1 hg
  have h := all2 tree_tab n m (by omega) (by omega)
  have e : linksZ n m = lkAll n m m := by simp [linksZ, hg]
  simp only [Bool.or_eq_true, beq_iff_eq, Bool.and_eq_true, List.all_eq_true] at h
  rcases h with (h | h) | ⟨h1, h2⟩
  · omega
  · omega
  · rw [e]; refine ⟨h1, ?_⟩
    rw [h2, treeZ, if_pos hg, e]; rfl
theorem foldl_take {α β : Type} (f : β → α → β) (b : β) (ls : List α) (k : Nat) (h : k < ls.length) : (ls.take (k + 1)).foldl f b = f ((ls.take k).foldl f b) ls[k] := by
  rw [List.take_succ_eq_append_getElem h, List.foldl_append]; rfl

theorem rw_replicate (n : Nat) (zs : List Int) (i : Nat) (h : i < n) : rw' (List.replicate n zs) i = zs := by simp [rw', h]
theorem zeroM_shape (n : Nat) : Shape n (zeroM n) := ⟨by simp [zeroM], fun i hi => by rw [zeroM, rw_replicate _ _ _ hi]; simp⟩

/-- One cell of a square matrix: where it lies, and that it may be written. -/
theorem DRel.at {w wr : World} {g cap n : Nat} {m : List (List Int)} (h : DRel w wr g cap n m) {a b : Nat} (ha : a < n) (hb : b < n) :
    ∃ ga ca, n ≤ ca ∧ ca ≤ maxLen ∧ wr.cell? ⟨g, a, none⟩ = some (.slice (some ⟨ga, 0, none⟩) n ca) ∧ wr.cell? ⟨ga, b, none⟩ = some (.int .i64 (elZ m a b)) ∧ wr.frozen? ⟨ga, b, none⟩ = false ∧
      (∀ z, DRel w (wr.setCell ⟨ga, b, none⟩ (.int .i64 z)) g cap n (setM m a b z)) ∧ (∃ cur, wr.heap[ga]? = some (.cells cur 3 (0, 0))) ∧ Below w.heap.size w wr := by
  obtain ⟨ga, ca, r1, r2, r3, r4, r5, r6, r7, r8⟩ := h.row ha
  exact ⟨ga, ca, r3, r4, r1, r5 b hb, r6 b, fun z => r7 wr (Below.refl _ _) b z hb, r8, h.2.1⟩
/-- The same, for a matrix and what lies beside it in blocks of another type. -/
def DLk (w wr : World) (g cap n : Nat) (m : List (List Int)) (B : Nat) (v : Value) (ls : List Lk) : Prop := DRel w wr g cap n m ∧ OwnF elLink wr B v ls
theorem DLk.at {w wr : World} {g cap n B : Nat} {m : List (List Int)} {v : Value} {ls : List Lk} (h : DLk w wr g cap n m B v ls) {a b : Nat} (ha : a < n) (hb : b < n) :
    ∃ ga ca, n ≤ ca ∧ ca ≤ 9223372036854775807 ∧ wr.cell? ⟨g, a, none⟩ = some (.slice (some ⟨ga, 0, none⟩) n ca) ∧ wr.cell? ⟨ga, b, none⟩ = some (.int .i64 (elZ m a b)) ∧ wr.frozen? ⟨ga, b, none⟩ = false ∧
      Hid (∀ z, DLk w (wr.setCell ⟨ga, b, none⟩ (.int .i64 z)) g cap n (setM m a b z) B v ls) := by
  obtain ⟨ga, ca, r1, r2, r3, r4, r5, r6, r7, _⟩ := h.1.at ha hb
  exact ⟨ga, ca, r1, r2, r3, r4, r5, fun z => ⟨r6 z, World.ownsRow.apart h.2 (by decide) r7 b _⟩⟩
theorem DLk.below {w wr w1 : World} {g cap n B : Nat} {m : List (List Int)} {v : Value} {ls : List Lk} (h : DLk w wr g cap n m B v ls) (hb : Below wr.heap.size wr w1) : DLk w w1 g cap n m B v ls := ⟨h.1.below hb, h.2.below hb⟩
end Go.Proofs.Ytehnbalbpfmijaa

namespace Go.Proofs.Ytehnbalbpfmijaa
open Go.RowKit

theorem lkIn_iff (w n : Nat) (l : Lk) : lkIn w n l = true ↔ 0 ≤ l.1 ∧ l.1 ≤ 4 ∧ 0 ≤ l.2.1 ∧ l.2.1 ≤ 4 ∧ 0 ≤ postA w l ∧ postA w l < postB w l ∧ postB w l < n := by simp [lkIn]
theorem lk_at (ls : List Lk) (k : Nat) (h : k < ls.length) : ls[k] = (lx ls k, ly ls k, ld ls k) := by have := lk_get ls k h; rw [List.getElem?_eq_getElem h] at this; exact Option.some.inj this
/-- A row without its first element. -/
theorem RdI.tail {w : World} {B g n ca : Nat} {zs : List Int} (hg : g < B) (hn : n = zs.length) (h1 : n ≤ ca) (h2 : ca ≤ maxLen) (hc : ∀ j, j < n → w.cell? ⟨g, j, none⟩ = some (.int .i64 (el zs j))) :
    RdI w B (.slice (some ⟨g, 1, none⟩) (zs.drop 1).length (ca - 1)) (zs.drop 1) := by
  refine ⟨_, _, rfl, by simp; omega, by unfold maxLen at *; omega, fun _ => ⟨_, rfl, hg, fun j u hu => ?_⟩⟩
  rw [List.getElem?_map, List.getElem?_drop] at hu
  obtain ⟨z, hz, rfl⟩ := Option.map_eq_some_iff.1 hu
  have hj : 1 + j < n := by have := (List.getElem?_eq_some_iff.1 hz).1; omega
  have := hc (1 + j) hj
  rw [el, List.getD_eq_getElem?_getD, hz] at this
  rw [show ((⟨g, 1, none⟩ : Addr).add j) = ⟨g, 1 + j, none⟩ by unfold Addr.add; split <;> simp_all]; exact this
theorem cutM_take (m : List (List Int)) (k : Nat) (h : k + 1 < m.length) : (cutM m).take (k + 1) = (cutM m).take k ++ [(rw' m (k + 1)).drop 1] := by
  have hl : k < (cutM m).length := by simp [cutM]; omega
  rw [List.take_succ_eq_append_getElem hl]
  congr 2
  simp [cutM, rw', h]

theorem DLk.link {w wr : World} {g cap n B c N : Nat} {m : List (List Int)} {A : Option Addr} {ls : List Lk} (h : DLk w wr g cap n m B (.slice A N c) ls) {k : Nat} (hk : k < ls.length) :
    ∃ ad, A = some ad ∧ ad.block < wr.heap.size ∧ wr.cell? (ad.add (k * 3)) = some (.int .i64 (lx ls k)) ∧
      wr.cell? ⟨(ad.add (k * 3)).block, (ad.add (k * 3)).off + 1, none⟩ = some (.int .i64 (ly ls k)) ∧ wr.cell? ⟨(ad.add (k * 3)).block, (ad.add (k * 3)).off + 2, none⟩ = some (.bool (ld ls k)) := by
  obtain ⟨A', c', e, _, _, G⟩ := RdT.of (E := elLink) rfl (fun _ => rfl) (h.2.rd okLink)
  obtain ⟨ad, h1, h2⟩ := G.out k hk
  simp only [Value.slice.injEq] at e
  exact ⟨ad, by rw [e.1, h1], h2⟩
theorem MRel.mat {w wr : World} {hi n : Nat} {v : Value} {m : List (List Int)} (h : MRel w wr hi v m) (hs : Shape n m) (hn : 0 < n) : ∃ g cap, v = .slice (some ⟨g, 0, none⟩) n cap ∧ n ≤ cap ∧ cap ≤ 9223372036854775807 ∧ DRel w wr g cap n m := by
  obtain ⟨vs, h1, h2⟩ := h.1
  obtain ⟨g, cap, hv, _, _⟩ := World.ownsRow.form h1 (by rw [hs.1]; exact hn)
  obtain ⟨A, c, e, q1, q2, _⟩ := h.1.rd.open_
  rw [hs.1] at hv e q1
  subst hv
  simp only [Value.slice.injEq] at e
  exact ⟨g, cap, rfl, by rw [e.2.2]; exact q1, by rw [e.2.2]; exact q2, h.1.d, h.2.1, hs⟩

end Go.Proofs.Ytehnbalbpfmijaa

namespace Go.Proofs.Ytehnbalbpfmijaa
open Go.RowKit

theorem OwnD.rd {w : World} {lo : Nat} {v : Value} {zss : List (List Int)} (h : OwnD w lo v zss) : RdII w w.heap.size v zss := by
  obtain ⟨vs, h1, h2, _⟩ := h
  have hl : vs.length = zss.length := by have := h1.1; omega
  rcases h1.2 with ⟨rfl, h0⟩ | ⟨g, cap, cur, rfl, hb, hh, hn, hm, hs, ht⟩
  · have e : zss = [] := List.eq_nil_of_length_eq_zero h0
    subst e
    have e2 : vs = [] := List.eq_nil_of_length_eq_zero hl
    subst e2
    exact ⟨none, 0, [], rfl, Nat.le_refl _, Nat.zero_le _, rfl, Rd.nil, fun i u hu => by simp at hu⟩
  · exact ⟨some ⟨g, 0, none⟩, cap, vs, rfl, hn, hm, hl, fun _ => ⟨_, rfl, (World.ownsRow.lt h1 g rfl).2, World.ownsRow.cells h1 rfl⟩, fun i u hu => (h2 i u hu).rd⟩
/-- Rows come back that read so; nothing that was there has turned. -/
def RetRdII (w : World) (zss : List (List Int)) (e : Ending) (w' : World) : Prop := ∃ v, e = .returned v ∧ RdII w' w'.heap.size v zss ∧ Below w.heap.size w w'

set_option maxHeartbeats 8000000 in
set_option maxRecDepth 100000 in
theorem specTreeMatrix_yes (n m : Nat) (w : World) (hg : gridB n m = true) :
    Calls Try.prog 121 #[.int .i64 n, .int .i64 m] w (RetRdII w (treeZ n m)) := by
  obtain ⟨⟨hn1, hn2⟩, hm1, hm2⟩ := (gridB_iff _ _).1 hg
  obtain ⟨hlk, _⟩ := tree_facts n m hg
  have hnm : n * m ≤ 16 := Nat.mul_le_mul (show n ≤ 4 by omega) (show m ≤ 4 by omega)
  have hpos : 0 < n * m := Nat.mul_pos (by omega) (by omega)
  have htz : treeZ n m = (linksZ n m).foldl (fun m l => stepS m (lkN n l)) (zeroM (n * m - 1)) := by rw [treeZ, if_pos hg]; rfl
  obtain ⟨K, hK⟩ : ∃ K, n * m = K + 1 := ⟨n * m - 1, by omega⟩
  rw [hK] at hlk htz hnm
  rw [Nat.add_sub_cancel] at htz
  have hw : IntKind.i64.wrap ((n : Int) * (m : Int)) = (K : Int) + 1 := by rw [← Int.natCast_mul, hK]; exact IntWalk.i64_in _ (by omega)
  have HLK := Lib.hid hlk; clear hlk
  clear hK hpos
  generalize hM : treeZ n m = M at *
  generalize hls : linksZ n m = ls at *
  have HLS := Lib.hid hls; clear hls
  have HMW := Lib.hid htz; clear htz hM
  have HMS := Lib.hid (MRel.start w)
  have hmk := run_make_row' (P := Try.prog) 31 3 (.int .i64 0) 8 Try.underlying31 infoInt rfl .i64 .i64 K (by omega) (by omega)
  go_enter Try.func121, Try.ntmps121
  go_wp2_with fail
  refine (specGridOk_any _ _ _).mono ?_
  rintro e w1 ⟨rfl, hw1⟩
  subst hw1
  rw [hg]
  go_wp2_with fail
  go_loopw [5, 7] (fun o s wr => ∃ (k hi : Nat) (v : Value) (zss : List (List Int)), k ≤ K ∧ s = .int .i64 ((k : Int) + 1) ∧ o = v ∧ Hid (MRel w wr hi v zss) ∧ Hid (zss = List.replicate k (List.replicate K 0)) ∧ zss.length ≤ k) (fun _ s _ => (K + 1) - (intOf s).toNat)
  case atStart => exact ⟨0, _, _, [], Nat.zero_le _, rfl, rfl, HMS, rfl, Nat.le_refl _⟩
  case round =>
    obtain ⟨k, hi, v, zss, hk, rfl, rfl, HR, HZ, hzl⟩ := hrel
    by_cases hlt : k < K
    · have ht : decide ((k : Int) + 1 < (K : Int) + 1) = true := by simp only [decide_eq_true_eq]; omega
      have hk0 : (0 : Int) ≤ (k : Int) := by omega
      have hk1 : (k : Int) < (K : Int) := by omega
      have HU := Lib.hid (RowRel.made HR.out K (by omega))
      go_wp2_with (at_builtin; refine wpList_pushRow rfl _ _ rfl HU.out rfl _ rfl (by simp) (by omega) ?_; intro v2 w2 HR2 HB2)
      go_roundw
      case rel => exact ⟨k + 1, _, _, _, by omega, by go_num, rfl, HR2, (by unfold Hid; rw [HZ.out, List.replicate_succ']), by simp; omega⟩
      case measure => simp [intOf]; omega
    · have HZ2 : Hid (zss = zeroM K) := by unfold Hid; rw [HZ.out, show k = K by omega]; rfl
      have hkK : decide ((k : Int) + 1 < (K : Int) + 1) = false := by simp only [decide_eq_false_iff_not]; omega
      rw [HZ2.out] at HR
      clear HZ HZ2 hzl hmk
      by_cases hK0 : K = 0
      · subst hK0
        have hls : ls = [] := by
          cases ls with
          | nil => rfl
          | cons l t =>
            have := HLK.out l (List.mem_cons_self ..)
            obtain ⟨_, _, _, _, i5, i6, i7⟩ := (lkIn_iff _ _ _).1 this
            omega
        subst hls
        have HM9 : Hid (zeroM 0 = M) := HMW.out.symm
        go_wp2_with fail
        refine (specLinksOf_any _ _ _).mono ?_
        rintro e w2 ⟨v2, rfl, ho2, hb2⟩
        rw [HLS.out] at ho2
        obtain ⟨A, c, e2, hl1, hl2, _⟩ := RdT.of (E := elLink) rfl (fun _ => rfl) (ho2.rd okLink)
        subst e2
        have HR7 := Lib.hid (HR.out.below hb2)
        go_wp2_with fail
        go_loopw [9] (fun s wr' => s = .int .i64 0 ∧ wr' = w2) (fun _ _ => 0)
        case atStart => exact ⟨rfl, rfl⟩
        case round =>
          obtain ⟨rfl, rfl⟩ := hrel
          go_wp2_with fail
          go_ret
          exact ⟨_, rfl, by rw [← HM9.out]; exact HR7.out.1.rd, HR7.out.2.1⟩
      · obtain ⟨g, cap, rfl, hc1, hc2, hd⟩ := HR.out.mat (zeroM_shape K) (by omega)
        have HD := Lib.hid hd
        clear hd HR
        go_wp2_with fail
        refine (specLinksOf_any _ _ _).mono ?_
        rintro e w2 ⟨v2, rfl, ho2, hb2⟩
        rw [HLS.out] at ho2
        obtain ⟨A, c, e2, hl1, hl2, _⟩ := RdT.of (E := elLink) rfl (fun _ => rfl) (ho2.rd okLink)
        subst e2
        unfold maxLen at hl2
        obtain ⟨B0, HD2⟩ : ∃ B0, Hid (DLk w w2 g cap K (zeroM K) B0 (.slice A ls.length c) ls) := ⟨_, HD.out.below hb2, ho2⟩
        clear HD ho2 hb2
        have HF0 : Hid (zeroM K = (ls.take 0).foldl (fun m l => stepS m (lkN n l)) (zeroM K)) := rfl
        go_wp2_with fail
        go_loopw [9] (fun s wr' => ∃ (k : Nat) (mm : List (List Int)), k ≤ ls.length ∧ s = .int .i64 k ∧ Hid (DLk w wr' g cap K mm B0 (.slice A ls.length c) ls) ∧ Hid (mm = (ls.take k).foldl (fun m l => stepS m (lkN n l)) (zeroM K))) (fun s _ => ls.length - (intOf s).toNat)
        case atStart => exact ⟨0, _, Nat.zero_le _, rfl, HD2, HF0⟩
        case round =>
          obtain ⟨k2, mm, hk2, rfl, HD3, HF⟩ := hrel
          by_cases hlt2 : k2 < ls.length
          · have hk20 : (0 : Int) ≤ (k2 : Int) := by omega
            have ht2 : (k2 : Int) < (ls.length : Int) := by omega
            obtain ⟨ad, rfl, had, hx, hy, hz⟩ := HD3.out.link hlt2
            have hin := HLK.out _ (List.getElem_mem hlt2)
            have HST : Hid ((ls.take (k2 + 1)).foldl (fun m l => stepS m (lkN n l)) (zeroM K) = stepS mm (lkN n (lx ls k2, ly ls k2, ld ls k2))) := by unfold Hid; rw [foldl_take _ _ _ _ hlt2, ← HF.out, lk_at _ _ hlt2]
            rw [lk_at _ _ hlt2] at hin
            generalize lx ls k2 = x at *
            generalize ly ls k2 = y at *
            generalize ld ls k2 = d at *
            obtain ⟨i1, i2, i3, i4, i5, i6, i7⟩ := (lkIn_iff _ _ _).1 hin
            obtain ⟨b, hb⟩ := Int.eq_ofNat_of_zero_le (show 0 ≤ postB n (x, y, d) - 1 by omega)
            have hb' : postB n (x, y, d) = (b : Int) + 1 := by omega
            have hbN : b < K := by omega
            have hbw : IntKind.i64.wrap ((b : Int) + 1 - 1) = (b : Int) := by rw [Int.add_sub_cancel]; exact IntWalk.i64_in _ (by omega)
            have hbw2 : IntKind.i64.wrap (b : Int) = (b : Int) := IntWalk.i64_in _ (by omega)
            have hb0 : (0 : Int) ≤ (b : Int) := by omega
            have hbK : (b : Int) < (K : Int) := by omega
            clear hb
            simp only at i1 i2 i3 i4
            by_cases ha0 : postA n (x, y, d) = 0
            · have HST2 : Hid (lkN n (x, y, d) = (0, b + 1)) := by unfold Hid lkN; rw [ha0, hb']; rfl
              have HA := Lib.hid ha0
              have HB := Lib.hid hb'
              clear ha0 hb' i5 i6 i7 hin
              go_wp2_with fail
              refine (l23Ends_any _ _ _ _ _ (by omega) (by omega) (by omega) (by omega) (by omega) (by omega)).mono ?_
              rintro e w3 ⟨rfl, hb3⟩
              rw [HA.out, HB.out]
              have HD4 := Lib.hid (HD3.out.below hb3)
              clear hb3 hx hy hz
              obtain ⟨g3, ca3, q1, q2, c1, c2, c3, HQ⟩ := HD4.out.at hbN hbN
              have HE8 := Lib.hid (HQ.out (wrap64 (elZ mm b b + 1)))
              clear HQ
              go_upto_region 18 with (fail)
              go_still_tail 18, (by kernel_rfl)
              change wpList _ _ _ _ _ w3.drew
              have HE8 : Hid (DLk w (w3.drew.setCell ⟨g3, b, none⟩ (.int .i64 (wrap64 (elZ mm b b + 1)))) g cap K (setM mm b b (wrap64 (elZ mm b b + 1))) B0 (.slice (some ad) ls.length c) ls) := HE8.out.below ((Below.refl _ _).drew)
              have c2' : w3.drew.cell? ⟨g3, b, none⟩ = some (.int .i64 (elZ mm b b)) := c2
              have c3' : w3.drew.frozen? ⟨g3, b, none⟩ = false := c3
              generalize w3.drew = w3d at *
              have HFN : Hid (setM mm b b (wrap64 (elZ mm b b + 1)) = (ls.take (k2 + 1)).foldl (fun m l => stepS m (lkN n l)) (zeroM K)) := by
                unfold Hid; rw [HST.out, HST2.out, stepS, if_neg (by simp)]
                rfl
              go_wp2_with fail
              go_roundw
              case rel => exact ⟨k2 + 1, _, by omega, by go_num, HE8, HFN⟩
              case measure => simp [intOf]; omega
            · obtain ⟨a, ha⟩ := Int.eq_ofNat_of_zero_le (show 0 ≤ postA n (x, y, d) - 1 by omega)
              have ha' : postA n (x, y, d) = (a : Int) + 1 := by omega
              have haN : a < K := by omega
              have haw : IntKind.i64.wrap ((a : Int) + 1 - 1) = (a : Int) := by rw [Int.add_sub_cancel]; exact IntWalk.i64_in _ (by omega)
              have haw2 : IntKind.i64.wrap (a : Int) = (a : Int) := IntWalk.i64_in _ (by omega)
              have ha0' : (0 : Int) ≤ (a : Int) := by omega
              have haK : (a : Int) < (K : Int) := by omega
              have HST2 : Hid (lkN n (x, y, d) = (a + 1, b + 1)) := by unfold Hid lkN; rw [ha', hb']; rfl
              have HA := Lib.hid ha'
              have HB := Lib.hid hb'
              clear ha ha' ha0 hb' i5 i6 i7 hin
              go_wp2_with fail
              refine (l23Ends_any _ _ _ _ _ (by omega) (by omega) (by omega) (by omega) (by omega) (by omega)).mono ?_
              rintro e w3 ⟨rfl, hb3⟩
              rw [HA.out, HB.out]
              have HD4 := Lib.hid (HD3.out.below hb3)
              clear hb3 hx hy hz
              have hag : decide ((a : Int) + 1 > 0) = true := by simp only [decide_eq_true_eq]; omega
              obtain ⟨g0, ca0, q1, q2, c1, c2, c3, HQ⟩ := HD4.out.at haN haN
              have HE5 := Lib.hid (HQ.out (wrap64 (elZ mm a a + 1)))
              clear HQ
              go_upto_region 15 with (fail)
              go_still_tail 18, (by kernel_rfl)
              change wpList _ _ _ _ _ w3.drew
              have HE5 : Hid (DLk w (w3.drew.setCell ⟨g0, a, none⟩ (.int .i64 (wrap64 (elZ mm a a + 1)))) g cap K (setM mm a a (wrap64 (elZ mm a a + 1))) B0 (.slice (some ad) ls.length c) ls) := HE5.out.below ((Below.refl _ _).drew)
              have c2' : w3.drew.cell? ⟨g0, a, none⟩ = some (.int .i64 (elZ mm a a)) := c2
              have c3' : w3.drew.frozen? ⟨g0, a, none⟩ = false := c3
              generalize w3.drew = w3d at *
              go_upto_region 16 with (fail)
              obtain ⟨w4, HW0⟩ : ∃ x, Hid (x = w3d.setCell ⟨g0, a, none⟩ (.int .i64 (wrap64 (elZ mm a a + 1)))) := ⟨_, rfl⟩
              rw [← HW0.out] at HE5
              have hww := HW0.out
              rw [← hww]
              clear hww c1 c2 c3 q1 q2
              obtain ⟨m1, HM0⟩ : ∃ x, Hid (x = incM mm a a 1) := ⟨_, rfl⟩
              have hmm : setM mm a a (wrap64 (elZ mm a a + 1)) = m1 := HM0.out.symm
              rw [hmm] at HE5
              clear hmm
              obtain ⟨g1, ca1, q1, q2, c1, c2, c3, HQ⟩ := HE5.out.at haN hbN
              have HE6 := Lib.hid (HQ.out (-1))
              clear HQ
              go_upto_region 17 with (fail)
              obtain ⟨w5, HW1⟩ : ∃ x, Hid (x = w4.setCell ⟨g1, b, none⟩ (.int .i64 (-1))) := ⟨_, rfl⟩
              rw [← HW1.out] at HE6
              have hww := HW1.out
              rw [← hww]
              clear hww c1 c2 c3 q1 q2
              obtain ⟨m2, HM1⟩ : ∃ x, Hid (x = setM m1 a b (-1)) := ⟨_, rfl⟩
              have hmm : setM m1 a b (-1) = m2 := HM1.out.symm
              rw [hmm] at HE6
              clear hmm
              obtain ⟨g2, ca2, q1, q2, c1, c2, c3, HQ⟩ := HE6.out.at hbN haN
              have HE7 := Lib.hid (HQ.out (-1))
              clear HQ
              go_upto_region 18 with (fail)
              obtain ⟨w6, HW2⟩ : ∃ x, Hid (x = w5.setCell ⟨g2, a, none⟩ (.int .i64 (-1))) := ⟨_, rfl⟩
              rw [← HW2.out] at HE7
              have hww := HW2.out
              rw [← hww]
              clear hww c1 c2 c3 q1 q2
              obtain ⟨m3, HM2⟩ : ∃ x, Hid (x = setM m2 b a (-1)) := ⟨_, rfl⟩
              have hmm : setM m2 b a (-1) = m3 := HM2.out.symm
              rw [hmm] at HE7
              clear hmm
              obtain ⟨g3, ca3, q1, q2, c1, c2, c3, HQ⟩ := HE7.out.at hbN hbN
              have HE8 := Lib.hid (HQ.out (wrap64 (elZ m3 b b + 1)))
              clear HQ
              go_upto_region 18 with (fail)
              go_still_tail 18, (by kernel_rfl)
              change wpList _ _ _ _ _ w6.drew
              have HE8 : Hid (DLk w (w6.drew.setCell ⟨g3, b, none⟩ (.int .i64 (wrap64 (elZ m3 b b + 1)))) g cap K (setM m3 b b (wrap64 (elZ m3 b b + 1))) B0 (.slice (some ad) ls.length c) ls) := HE8.out.below ((Below.refl _ _).drew)
              have c2' : w6.drew.cell? ⟨g3, b, none⟩ = some (.int .i64 (elZ m3 b b)) := c2
              have c3' : w6.drew.frozen? ⟨g3, b, none⟩ = false := c3
              generalize w6.drew = w6d at *
              have HFN : Hid (setM m3 b b (wrap64 (elZ m3 b b + 1)) = (ls.take (k2 + 1)).foldl (fun m l => stepS m (lkN n l)) (zeroM K)) := by
                unfold Hid; rw [HST.out, HST2.out, stepS, if_pos (by simp)]
                show _ = incM (setM (setM (incM mm a a 1) a b (-1)) b a (-1)) b b 1
                rw [← HM0.out, ← HM1.out, ← HM2.out]; rfl
              go_wp2_with fail
              go_roundw
              case rel => exact ⟨k2 + 1, _, by omega, by go_num, HE8, HFN⟩
              case measure => simp [intOf]; omega
          · have HF2 : Hid (mm = M) := by unfold Hid; rw [HF.out, List.take_of_length_le (by omega)]; exact HMW.out.symm
            go_wp2_with fail
            go_ret
            exact ⟨_, rfl, by rw [← HF2.out]; exact HD3.out.1.1.rd, HD3.out.1.2.1⟩
theorem specTreeMatrix_any (a b : Int) (w : World) :
    Calls Try.prog 121 #[.int .i64 a, .int .i64 b] w (RetRdII w (treeZ a b)) := by
  cases hg : gridB a b
  · have e0 : treeZ a b = [] := by simp [treeZ, hg]
    rw [e0]; clear e0
    have HMS := Lib.hid (MRel.start w)
    go_enter Try.func121, Try.ntmps121
    go_wp2_with fail
    refine (specGridOk_any _ _ _).mono ?_
    rintro e w1 ⟨rfl, hw1⟩
    subst hw1
    rw [hg]
    go_wp2_with fail
    go_ret
    exact ⟨_, rfl, HMS.out.1.rd, HMS.out.2.1⟩
  · have hb := (gridB_iff _ _).1 hg
    obtain ⟨n, rfl⟩ := Int.eq_ofNat_of_zero_le (show 0 ≤ a by omega)
    obtain ⟨m, rfl⟩ := Int.eq_ofNat_of_zero_le (show 0 ≤ b by omega)
    exact specTreeMatrix_yes n m w hg
end Go.Proofs.Ytehnbalbpfmijaa

namespace Go.Proofs.Ytehnbalbpfmijaa
open Go.RowKit

end Go.Proofs.Ytehnbalbpfmijaa

namespace Go.Proofs.Ytehnbalbpfmijaa
open Go.RowKit

theorem RowRel.ofSrc {w wr w1 : World} {hi : Nat} {v u : Value} {zss : List (List Int)} {zs : List Int} (h : MRel w wr hi v zss) (H : Acc elInt w hi w1 u ([] ++ zs)) (hg : (wr.alloc (.cells #[] 3)).grownBy w1 (some wr.heap.size)) : RowRel w w1 hi v zss u zs := by
  obtain ⟨a1, a2, a3, a4⟩ := h.below ((Below.refl _ _).alloc (Nat.le_refl _) (.cells #[] 3))
  obtain ⟨b1, b2, b3, b4⟩ := H
  exact ⟨⟨a1.grown hg fun k hk => by obtain rfl := Option.some.inj hk; exact h.2.2.1, b2, b4, a4⟩, ownF_int.1 b1⟩
theorem flat_int (zs : List Int) : zs.flatMap elInt.f = zs.map (Value.int .i64) := by
  induction zs with
  | nil => rfl
  | cons z zs ih => rw [List.flatMap_cons, ih]; rfl
end Go.Proofs.Ytehnbalbpfmijaa

namespace Go.Proofs.Ytehnbalbpfmijaa
open Go.RowKit

def sdetGo (n : Nat) : Nat → Nat → List (List Int) → Int → Int
  | 0, _, _, b => b
  | f + 1, k, m, b => if k < n then (if elZ m k k = 0 then 0 else sdetGo n f (k + 1) (allE n m b k n) (elZ m k k)) else b
def sdetZ (m : List (List Int)) : Int := sdetGo m.length m.length 0 m 1

set_option maxRecDepth 100000 in
set_option maxHeartbeats 8000000 in
theorem l23Det_any (u : Value) (xss : List (List Int)) (B : Nat) (w : World) (h : RdII w B u xss) (hB : B ≤ w.heap.size) (hl : xss.length ≤ 1024) (hr : ∀ i, i < xss.length → (rw' xss i).length = xss.length) :
    Calls Try.prog 120 #[u] w fun e w' => e = .returned (.int .i64 (sdetZ xss)) ∧ Below w.heap.size w w' := by
  obtain ⟨A, c, rfl, h1, h2, h3⟩ := h.open_
  unfold maxLen at h2
  clear h
  have H3 := Lib.hid h3; clear h3
  generalize hres : sdetZ xss = r
  have HRES : Hid (sdetGo xss.length xss.length 0 xss 1 = r) := hres
  clear hres
  have HSH : Hid (Shape xss.length xss) := ⟨rfl, hr⟩
  have HR := Lib.hid hr; clear hr
  have HMS := Lib.hid (MRel.start w)
  generalize hN : xss.length = n at *
  have HN := Lib.hid hN; clear hN
  go_enter Try.func120, Try.ntmps120
  go_wp2_with fail
  go_loopw [4, 5] (fun o s wr => ∃ (k hi : Nat) (v : Value) (zss : List (List Int)), k ≤ n ∧ s = .int .i64 k ∧ o = v ∧ Hid (MRel w wr hi v zss) ∧ Hid (zss = xss.take k) ∧ zss.length ≤ k) (fun _ s _ => n - (intOf s).toNat)
  case atStart => exact ⟨0, _, _, [], Nat.zero_le _, rfl, rfl, HMS, (by simp [Hid]), Nat.le_refl _⟩
  case round =>
    obtain ⟨k, hi, v, zss, hk, rfl, rfl, HM, HZ, hzl⟩ := hrel
    by_cases hlt : k < n
    · obtain ⟨ad, ur, rfl, hbl, hc, A1, c1, rfl, q1, q2, q3⟩ := H3.out k (by rw [HN.out]; exact hlt)
      have hb := HM.out.2.1
      have hcw := (hb.cell (p := ad.add k) (by rw [addBlock]; omega)).trans hc
      have hca : (wr.alloc (.cells #[] 3)).cell? (ad.add k) = some (.slice A1 (rw' xss k).length c1) := (((Below.refl wr.heap.size wr).alloc (Nat.le_refl _) (.cells #[] 3)).cell (p := ad.add k) (by rw [addBlock]; have := hb.size; omega)).trans hcw
      have hal : Below w.heap.size w (wr.alloc (.cells #[] 3)) := hb.alloc hb.size _
      have HQ := Lib.hid (q3.below (hal.mono hB))
      have HACC : Hid (Acc elInt w hi (wr.alloc (.cells #[] 3)) (.slice (some ⟨wr.heap.size, 0, none⟩) 0 0) []) := Acc.startAt hb HM.out.2.2.2 HM.out.2.2.1
      have hrl : (rw' xss k).length ≤ 1024 := by rw [HR.out k hlt]; omega
      have HX := Lib.hid (take_row xss k (by rw [HN.out]; exact hlt))
      have hk0 : (0 : Int) ≤ (k : Int) := by omega
      have hk1 : (k : Int) < (n : Int) := by omega
      have HFL : Hid ((rw' xss k).flatMap elInt.f = (rw' xss k).map (Value.int .i64)) := by unfold Hid; generalize rw' xss k = zs; induction zs with | nil => rfl | cons z zs ih => rw [List.flatMap_cons, ih]; rfl
      clear hc q3 hb hal hcw
      generalize rw' xss k = zs at *
      unfold maxLen at q2
      go_wp2_with (first
        | (at_builtin; refine wpList_pushSrc okInt rfl rfl _ _ rfl HACC.out rfl zs B A1 zs.length c1 (by rw [HFL.out]; exact HQ.out) rfl rfl (by simp; omega) ?_; intro u1 w1 HA1 HG1; have HRR := Lib.hid (RowRel.ofSrc HM.out HA1.out HG1.out.1); clear HA1 HG1; obtain ⟨A4, c4, rfl, _, _, _⟩ := HRR.out.2.rd)
        | (at_builtin; refine wpList_pushRow rfl _ _ rfl HRR.out rfl _ rfl (by simp) (by omega) ?_; intro u2 w2 HM2 HB2))
      go_roundw
      case rel => exact ⟨k + 1, _, _, _, by omega, by go_num, rfl, HM2, (by unfold Hid; rw [HX.out, ← HZ.out]), by simp; omega⟩
      case measure => simp [intOf]; omega
    · have HZ2 : Hid (zss = xss) := by unfold Hid; rw [HZ.out, List.take_of_length_le (by rw [HN.out]; omega)]
      rw [HZ2.out] at HM
      obtain rfl : k = n := by omega
      clear HZ HZ2 hzl hlt hk
      rcases Nat.eq_zero_or_pos k with h0 | hpos
      · subst h0
        have HF : Hid ((1 : Int) = r) := HRES
        go_wp2_with fail
        go_loopw [6, 7] (fun b s wr' => b = .int .i64 1 ∧ s = .int .i64 0 ∧ Below w.heap.size w wr') (fun _ _ _ => 0)
        case atStart => exact ⟨rfl, rfl, HM.out.2.1⟩
        case round =>
          obtain ⟨rfl, rfl, hb9⟩ := hrel
          go_wp2_with fail
          go_ret
          exact ⟨ret_int HF.out, hb9⟩
      · obtain ⟨g, cap, rfl, hc1, hc2, hd⟩ := HM.out.mat HSH.out hpos
        have HD0 := Lib.hid hd
        clear hd HM
        obtain ⟨N, HNk⟩ : ∃ N, Hid (N = k) := ⟨_, rfl⟩
        have HRES2 : Hid (sdetGo k k 0 xss 1 = r) := HRES
        clear HRES HMS HSH HR H3 HN hl h1 h2
        go_wp2_with fail
        go_loopw [6, 7] (fun b s wr => ∃ (j f : Nat) (m : List (List Int)) (p : Int), j ≤ k ∧ Hid (k = j + f) ∧ b = .int .i64 p ∧ s = .int .i64 j ∧ p ≠ 0 ∧ Hid (DRel w wr g cap k m) ∧ Hid (sdetGo k f j m p = r)) (fun _ s _ => k - (intOf s).toNat)
        case atStart => exact ⟨0, k, xss, 1, Nat.zero_le _, (by unfold Hid; omega), rfl, rfl, by omega, HD0, HRES2⟩
        case round =>
          obtain ⟨j, f, m, p, hj, HKF, rfl, rfl, hp0, HD, HE⟩ := hrel
          by_cases hlt : j < k
          · obtain ⟨f, rfl⟩ : ∃ f', f = f' + 1 := ⟨f - 1, by have := HKF.out; omega⟩
            have HE1 : Hid (sdetGo k (f + 1) j m p = if elZ m j j = 0 then 0 else sdetGo k f (j + 1) (allE k m p j k) (elZ m j j)) := by unfold Hid; rw [sdetGo, if_pos hlt]
            obtain ⟨gi, ci, r1, r2, r3, r4, r5, r6, r7, _⟩ := HD.out.row hlt
            have r5' := r5 j hlt
            unfold maxLen at r4
            have t0 : (0 : Int) ≤ (j : Int) := by omega
            have t1 : (j : Int) < (k : Int) := by omega
            clear r5 r6 r7
            cases hz : elZ m j j == 0
            · have HZN : Hid (elZ m j j ≠ 0) := by unfold Hid; simpa using hz
              have HE2 : Hid (sdetGo k f (j + 1) (allE k m p j k) (elZ m j j) = r) := by unfold Hid; rw [← HE.out, HE1.out, if_neg HZN.out]
              clear HE HE1
              go_upto_region 13 with (fail)
              clear r1 r2 r3 r4 r5' hz
              go_wp2_with fail
              go_loopw [8] (fun s wr => ∃ (i : Nat) (m3 : List (List Int)), j + 1 ≤ i ∧ i ≤ k ∧ s = .int .i64 i ∧ Hid (DRel w wr g cap k m3) ∧ Hid (m3 = allE k m p j i)) (fun s _ => k - (intOf s).toNat)
              case atStart => exact ⟨j + 1, m, Nat.le_refl _, by omega, by go_num, HD, by (unfold Hid; rw [allE, if_pos (Nat.le_refl _)])⟩
              case round =>
                obtain ⟨i, m3, hik, hin, rfl, HD3, HM3⟩ := hrel
                have i0 : (0 : Int) ≤ (i : Int) := by omega
                by_cases hlti : i < k
                · have i1 : (i : Int) < (k : Int) := by omega
                  have hti : decide ((i : Int) < (k : Int)) = true := by simp only [decide_eq_true_eq]; omega
                  go_wp2_with fail
                  go_loopw [9] (fun s wr => ∃ (t : Nat) (m4 : List (List Int)), j + 1 ≤ t ∧ t ≤ k ∧ s = .int .i64 t ∧ Hid (DRel w wr g cap k m4) ∧ Hid (m4 = rowE m3 p j i t)) (fun s _ => k - (intOf s).toNat)
                  case atStart => exact ⟨j + 1, m3, Nat.le_refl _, by omega, by go_num, HD3, by (unfold Hid; rw [rowE, if_pos (Nat.le_refl _)])⟩
                  case round =>
                    obtain ⟨t, m4, htk, htn, rfl, HD4, HM4⟩ := hrel
                    by_cases hltt : t < k
                    · have j0 : (0 : Int) ≤ (t : Int) := by omega
                      have j1 : (t : Int) < (k : Int) := by omega
                      obtain ⟨gi, ci, gk, ck, r3, r4, s3, s4, ⟨l1, l2, l3, l4, l5⟩, rj, rf, hz⟩ := HD4.out.pair hlti hlt hltt (by omega) (by omega)
                      unfold maxLen at r4 s4
                      have HD5 : Hid (DRel w (wr.setCell ⟨gi, t, none⟩ (.int .i64 (wrap64 ((wrap64 (wrap64 (elZ m4 i t * elZ m4 j j) - wrap64 (elZ m4 i j * elZ m4 j t))).tdiv p)))).drew g cap k (stepE m4 p j i t)) := (hz (wrap64 ((wrap64 (wrap64 (elZ m4 i t * elZ m4 j j) - wrap64 (elZ m4 i j * elZ m4 j t))).tdiv p))).2
                      clear hz
                      go_upto_region 19 with (fail)
                      go_still_tail 39, (by kernel_rfl)
                      change wpList _ _ _ _ _ wr.drew
                      have HD6 : Hid (DRel w (wr.drew.setCell ⟨gi, t, none⟩ (.int .i64 (wrap64 ((wrap64 (wrap64 (elZ m4 i t * elZ m4 j j) - wrap64 (elZ m4 i j * elZ m4 j t))).tdiv p)))) g cap k (stepE m4 p j i t)) := HD5
                      have rj' : wr.drew.cell? ⟨gi, t, none⟩ = some (.int .i64 (elZ m4 i t)) := rj
                      have rf' : wr.drew.frozen? ⟨gi, t, none⟩ = false := rf
                      clear HD5
                      generalize wr.drew = wd at *
                      go_wp2_with fail
                      go_roundw
                      case rel => exact ⟨t + 1, _, by omega, by omega, by go_num, HD6, by (unfold Hid; rw [rowE, if_neg (by omega), HM4.out])⟩
                      case measure => simp [intOf]; omega
                    · have HK : Hid (m4 = rowE m3 p j i k) := by unfold Hid; rw [HM4.out, show t = k by omega]
                      go_wp2_with fail
                      go_roundw
                      case rel => exact ⟨i + 1, m4, by omega, by omega, by go_num, HD4, by (unfold Hid; rw [HK.out, HM3.out, allE, if_neg (by omega)])⟩
                      case measure => simp [intOf]; omega
                · have HK : Hid (m3 = allE k m p j k) := by unfold Hid; rw [HM3.out, show i = k by omega]
                  obtain ⟨gk, ck, s1, s2, s3, s4, s5, s6, s7, _⟩ := HD3.out.row hlt
                  have sk := s5 j hlt
                  have HKK : Hid (elZ m3 j j = elZ m j j) := by unfold Hid elZ; rw [HK.out, (allE_facts HD.out.2.2 p j k (Nat.le_refl _)).2 j (Nat.le_refl _)]
                  have hne : elZ m3 j j ≠ 0 := by rw [HKK.out]; exact HZN.out
                  have HNE := Lib.hid hne
                  unfold maxLen at s4
                  clear s5 s6 s7 hne
                  go_wp2_with fail
                  go_roundw
                  case rel => exact ⟨j + 1, f, m3, _, by omega, (by have := HKF.out; unfold Hid; omega), rfl, by go_num, HNE.out, HD3, by (unfold Hid; rw [HKK.out, HK.out]; exact HE2.out)⟩
                  case measure => simp [intOf]; omega
            · have HF : Hid ((0 : Int) = r) := by unfold Hid; rw [← HE.out, HE1.out, if_pos (by simpa using hz)]
              go_wp2_with fail
              go_ret
              exact ⟨ret_int HF.out, HD.out.2.1⟩
          · have HF : Hid (p = r) := by
              unfold Hid; rw [← HE.out]
              cases f with
              | zero => rw [sdetGo]
              | succ f => rw [sdetGo, if_neg hlt]
            go_wp2_with fail
            go_ret
            exact ⟨ret_int HF.out, HD.out.2.1⟩
end Go.Proofs.Ytehnbalbpfmijaa

namespace Go.Proofs.Ytehnbalbpfmijaa
open Go.RowKit

theorem trees_tab : ((List.range 5).all fun w => (List.range 5).all fun h => w == 0 || h == 0 || (decide ((treeZ w h).length ≤ 15) && (List.range 16).all (fun i => !decide (i < (treeZ w h).length) || decide ((rw' (treeZ w h) i).length = (treeZ w h).length)) &&
    detZ (treeZ w h) == sdetZ (treeZ w h))) = true := by decide +kernel
theorem trees_facts (n m : Nat) (hg : gridB n m = true) : (treeZ n m).length ≤ 15 ∧ (∀ i, i < (treeZ n m).length → (rw' (treeZ n m) i).length = (treeZ n m).length) ∧ detZ (treeZ n m) = sdetZ (treeZ n m) := by
  obtain ⟨⟨a1, a2⟩, a3, a4⟩ := (gridB_iff _ _).1 hg
  have h := all2 trees_tab n m (by omega) (by omega)
  simp only [Bool.or_eq_true, beq_iff_eq, Bool.and_eq_true, List.all_eq_true, decide_eq_true_eq, Bool.not_eq_true', decide_eq_false_iff_not] at h
  rcases h with (h | h) | ⟨⟨h1, h2⟩, h3⟩
  · omega
  · omega
  · refine ⟨h1, fun i hi => ?_, h3⟩
    rcases h2 i (by simp; omega) with h2 | h2
    · exact absurd hi h2
    · exact h2
def countTreesZ (a b : Int) : Int := if gridB a b then sdetZ (treeZ a b) else 0

theorem specCountTrees_any (a b : Int) (w : World) :
    Calls Try.prog 53 #[.int .i64 a, .int .i64 b] w fun e w' => e = .returned (.int .i64 (countTreesZ a b)) ∧ Below w.heap.size w w' := by
  cases hg : gridB a b
  · have e0 : countTreesZ a b = 0 := by simp [countTreesZ, hg]
    rw [e0]; clear e0
    go_enter Try.func53, Try.ntmps53
    go_wp2_with fail
    refine (specGridOk_any _ _ _).mono ?_
    rintro e w1 ⟨rfl, rfl⟩
    rw [hg]
    go_wp2_with fail
    go_ret
    exact ⟨rfl, Below.refl _ _⟩
  · have hb := (gridB_iff _ _).1 hg
    obtain ⟨n, rfl⟩ := Int.eq_ofNat_of_zero_le (show 0 ≤ a by omega)
    obtain ⟨m, rfl⟩ := Int.eq_ofNat_of_zero_le (show 0 ≤ b by omega)
    obtain ⟨t1, t2, _⟩ := trees_facts n m hg
    have T2 := Lib.hid t2
    have T3 : Hid (sdetZ (treeZ n m) = countTreesZ n m) := by unfold Hid; rw [countTreesZ, if_pos hg]
    clear t2
    generalize countTreesZ n m = r at *
    generalize ht : treeZ n m = t at *
    have HT := Lib.hid ht; clear ht
    go_enter Try.func53, Try.ntmps53
    go_wp2_with fail
    refine (specGridOk_any _ _ _).mono ?_
    rintro e w1 ⟨rfl, rfl⟩
    rw [hg]
    go_wp2_with fail
    refine (specTreeMatrix_any _ _ _).mono ?_
    rintro e w2 ⟨v, rfl, hr, hb2⟩
    rw [HT.out] at hr
    go_wp2_with fail
    refine (l23Det_any _ t _ _ hr (Nat.le_refl _) (by omega) T2.out).mono ?_
    rintro e w3 ⟨rfl, hb3⟩
    go_wp2_with fail
    go_ret
    exact ⟨ret_int T3.out, hb2.trans (hb3.mono hb2.size)⟩
end Go.Proofs.Ytehnbalbpfmijaa
