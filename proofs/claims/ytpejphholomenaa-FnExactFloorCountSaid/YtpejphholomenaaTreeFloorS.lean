/- The contract of the reference's TreeFloor. -/
import Derived.Test.YtpejphholomenaaTreeFloor
import Derived.OwnWalk
namespace Go.Proofs.Ytpejphholomenaa
open Go.RowKit

/-- Behind k rounds of the reference: block H holds the result's nil, block H + 1 the value of the row. -/
def FloorS (w wr : World) (v : Value) (zs : List Int) : Prop :=
  wr.rowIs w.heap.size 97 1 (fun _ => .slice none 0 0) ∧ wr.rowIs (w.heap.size + 1) 97 1 (fun _ => v) ∧ OwnI wr (w.heap.size + 2) v zs ∧ w.heap.size + 2 ≤ wr.heap.size ∧ Below w.heap.size w wr
theorem FloorS.step {w wr w1 : World} {v : Value} {zs : List Int} {c : Int} {g cap : Nat} (h : FloorS w wr v zs)
    (hown : w1.ownsRow (w.heap.size + 2) 3 1 (.slice (some ⟨g, 0, none⟩) (zs.length + 1) cap) (zs.length + 1) (zs.map (Value.int .i64) ++ [.int .i64 c]))
    (hg : (wr.alloc (.cells #[.int .i64 c] 3)).grownBy w1 v.ownBlock) :
    FloorS w (w1.setCell ⟨w.heap.size + 1, 0, none⟩ (.slice (some ⟨g, 0, none⟩) (zs.length + 1) cap)) (.slice (some ⟨g, 0, none⟩) (zs.length + 1) cap) (zs ++ [c]) ∧
      w1.cell? ⟨w.heap.size + 1, 0, none⟩ = some v ∧ w1.frozen? ⟨w.heap.size + 1, 0, none⟩ = false := by
  obtain ⟨h1, h2, h3, h5, h6⟩ := h
  have hsz : wr.heap.size + 1 ≤ w1.heap.size := by simpa using hg.size
  have hgl := (World.ownsRow.lt hown g rfl).1
  have hlow : ∀ k, v.ownBlock = some k → w.heap.size + 2 ≤ k := fun k hk => (h3.lt k hk).1
  have hb0 : w1.heap[w.heap.size]? = wr.heap[w.heap.size]? :=
    (hg.block _ (by simp; omega) (fun e => by have := hlow _ e.symm; omega)).trans (Below.heap_alloc _ _ _ (by omega))
  have hb2 : w1.heap[w.heap.size + 1]? = wr.heap[w.heap.size + 1]? :=
    (hg.block _ (by simp; omega) (fun e => by have := hlow _ e.symm; omega)).trans (Below.heap_alloc _ _ _ (by omega))
  refine ⟨⟨(h1.of_block hb0).setOther (by simp) _, ((h2.of_block hb2).set 0 _).congr fun i hi => by simp [show i = 0 by omega], ?_, by simp; omega, ?_⟩, (h2.of_block hb2).cell (by omega), (h2.of_block hb2).frozen 0⟩
  · have e : (zs ++ [c]).length = zs.length + 1 := by simp
    have e2 : (zs ++ [c]).map (Value.int .i64) = zs.map (Value.int .i64) ++ [.int .i64 c] := by simp
    unfold OwnI
    rw [e, e2]
    exact Go.ownsRow_setCell_other hown (by simp [Value.ownBlock]; omega) _
  · exact ((h6.alloc (by omega) _).grown hg (by simp; omega) (fun k hk => by have := hlow k hk; omega)).setCell (by simp) _

theorem floor_take0 (c : Int) (n : Nat) (zs : List Int) (hz : zs = (floorRows c n).take zs.length) (h : zs.length = 0) : zs ++ [c - 1] = (floorRows c n).take (zs ++ [c - 1]).length := by
  have e : zs = [] := List.eq_nil_of_length_eq_zero h
  subst e; rfl
theorem floor_take1 (c : Int) (n : Nat) (zs : List Int) (hz : zs = (floorRows c n).take zs.length) (h : 0 < zs.length) (hl : zs.length < 2 * n - 1) : zs ++ [c] = (floorRows c n).take (zs ++ [c]).length := by
  obtain ⟨m, hm⟩ : ∃ m, zs.length = m + 1 := ⟨zs.length - 1, by omega⟩
  have hlen : m + 1 < (floorRows c n).length := by simp [floorRows]; omega
  rw [hm] at hz
  rw [List.length_append, List.length_singleton, hm, List.take_succ_eq_append_getElem hlen]
  exact congr (congrArg _ hz) (by simp [floorRows])
theorem floorS_start (w : World) : FloorS w ((w.alloc (.cells #[.slice none 0 0] 97)).alloc (.cells #[.slice none 0 0] 97)) (.slice none 0 0) [] := by
  have a1 := row_one w (.slice none 0 0) 97
  have a3 := row_one (w.alloc (.cells #[.slice none 0 0] 97)) (.slice none 0 0) 97
  exact ⟨a1.alloc _, by simpa using a3, World.ownsRow_nil _ _ _ _, by simp, ((Below.refl _ _).alloc (Nat.le_refl _) _).alloc (by simp) _⟩
theorem floorS_end {w wr : World} {v : Value} {zs : List Int} (h : FloorS w wr v zs) :
    RetFloor w zs (.returned (.agg #[v])) (wr.setCell ⟨w.heap.size, 0, none⟩ v) ∧ (wr.setCell ⟨w.heap.size, 0, none⟩ v).cell? ⟨w.heap.size, 0, none⟩ = some v := by
  obtain ⟨h1, h2, h3, h5, h6⟩ := h
  have h4 := (h1.set 0 v).cell (i := 0) (by omega)
  refine ⟨⟨v, rfl, OwnI.mono0 (Go.ownsRow_setCell_other h3 (a := ⟨w.heap.size, 0, none⟩) (fun e => by have := (h3.lt _ e).1; simp at this; omega) v) (by omega), h6.setCell (Nat.le_refl _) _⟩, by simpa using h4⟩

set_option maxRecDepth 100000 in
set_option maxHeartbeats 2000000 in
theorem specTreeFloor_at1 (n : Nat) (h1 : 1 ≤ n) (h4 : n ≤ 4) (w : World) :
    Calls Try.prog 89 #[.int .i64 1, .int .i64 n] w (RetFloor w (floorRows 1 n)) := by
  obtain ⟨i0, hi0, hz0, hz1, hz2⟩ := info_parts infoInt
  have hg : gridB 1 n = true := by
    simp only [gridB, Bool.and_eq_true, inB_iff]; omega
  go_enter Try.func89, Try.ntmps89
  go_wp2_with fail
  go_loopw [6] (fun s wr => ∃ (v : Value) (zs : List Int), zs.length ≤ 2 * n - 1 ∧ s = .int .i64 (zs.length : Int) ∧ FloorS w wr v zs ∧ Hid (zs = (floorRows 1 n).take zs.length)) (fun s _ => 2 * n - 1 - (intOf s).toNat)
  case atStart => exact ⟨.slice none 0 0, [], by simp, rfl, floorS_start w, rfl⟩
  case round =>
    obtain ⟨v, zs, hk, rfl, hr, HZ⟩ := hrel
    by_cases hlt : zs.length < 2 * n - 1
    · obtain ⟨r1, r2, r3, r5, r6⟩ := id hr
      have hc : wr.cell? ⟨w.heap.size + 1, 0, none⟩ = some v := r2.cell (by omega)
      have HR := Lib.hid hr
      have R3 := Lib.hid r3
      clear r1 r2 r3 hr
      by_cases h0 : zs.length = 0
      · have h0' : ((zs.length : Int) == 0) = true := by simp [h0]
        have HN := Lib.hid (floor_take0 1 n zs HZ.out h0); clear h0
        go_wp2_with fail
        refine (specGridOk_any _ _ _).mono ?_
        rintro e w1 ⟨rfl, rfl⟩
        go_wp2_with (at_builtin; refine wpList_append_lies _ rfl (.tmp 31) (.tmp 33) _ rfl (w.heap.size + 2) 3 i0 _ 1 8 Try.underlying34 hi0 hz0 hz1 hz2 rfl (by omega) v zs.length _ rfl (World.ownsRow.alloc R3.out _) ⟨wr.heap.size, 0, none⟩ 1 1 [.int .i64 0] rfl rfl (World.news_of_block (cs := #[.int .i64 0]) (t := 3) (fr := (0, 0)) (heap_alloc_new wr _)) (by simp [Value.oneCell']) (by omega) (by unfold maxLen; omega) (by omega) (by simp; omega) (wr.heap.size + 1) (by simp) ?_; intro gg cap w1 hown1 hgrow hat hlt1; obtain ⟨hs1, hs2, hs3⟩ := FloorS.step HR.out hown1 hgrow; have HS1 := Lib.hid hs1; clear hs1)
        go_roundw
        case rel => exact ⟨_, zs ++ [1 - 1], by simp; omega, by simp, HS1.out, HN⟩
        case measure => simp [intOf]; omega
      · have h0' : ((zs.length : Int) == 0) = false := by rw [beq_eq_false_iff_ne]; omega
        have HN := Lib.hid (floor_take1 1 n zs HZ.out (by omega) hlt); clear h0
        go_wp2_with fail
        refine (specGridOk_any _ _ _).mono ?_
        rintro e w1 ⟨rfl, rfl⟩
        go_wp2_with (at_builtin; refine wpList_append_lies _ rfl (.tmp 31) (.tmp 33) _ rfl (w.heap.size + 2) 3 i0 _ 1 8 Try.underlying34 hi0 hz0 hz1 hz2 rfl (by omega) v zs.length _ rfl (World.ownsRow.alloc R3.out _) ⟨wr.heap.size, 0, none⟩ 1 1 [.int .i64 1] rfl rfl (World.news_of_block (cs := #[.int .i64 1]) (t := 3) (fr := (0, 0)) (heap_alloc_new wr _)) (by simp [Value.oneCell']) (by omega) (by unfold maxLen; omega) (by omega) (by simp; omega) (wr.heap.size + 1) (by simp) ?_; intro gg cap w1 hown1 hgrow hat hlt1; obtain ⟨hs1, hs2, hs3⟩ := FloorS.step HR.out hown1 hgrow; have HS1 := Lib.hid hs1; clear hs1)
        go_roundw
        case rel => exact ⟨_, zs ++ [1], by simp; omega, by simp, HS1.out, HN⟩
        case measure => simp [intOf]; omega
    · obtain ⟨r1, r2, r3, r5, r6⟩ := id hr
      have hc : wr.cell? ⟨w.heap.size + 1, 0, none⟩ = some v := r2.cell (by omega)
      have hc0 := r1.cell (i := 0) (by omega)
      have hf0 := r1.frozen 0
      obtain ⟨A, cp, hv, _⟩ := r3.rd
      obtain ⟨hE, hR⟩ := floorS_end hr
      have HE : Hid (zs = floorRows 1 n) := by
        unfold Hid; rw [HZ.out, List.take_of_length_le]; simp [floorRows]; omega
      rw [HE.out] at hE
      have HEE := Lib.hid hE; have HRR := Lib.hid hR
      clear r1 r2 r3 hr hE hR
      subst hv
      go_wp2_with fail
      refine (specGridOk_any _ _ _).mono ?_
      rintro e w1 ⟨rfl, rfl⟩
      go_wp2_with fail
      refine bodyPost_ret (v := .agg #[.slice A zs.length cp]) (by have hR' := HRR.out; simp [results, Try.results89, go_sem, hR']) rfl ?_
      exact HEE.out
set_option maxRecDepth 100000 in
set_option maxHeartbeats 2000000 in
theorem specTreeFloor_at2 (n : Nat) (h1 : 1 ≤ n) (h4 : n ≤ 4) (w : World) :
    Calls Try.prog 89 #[.int .i64 2, .int .i64 n] w (RetFloor w (floorRows 7 n)) := by
  obtain ⟨i0, hi0, hz0, hz1, hz2⟩ := info_parts infoInt
  have hg : gridB 2 n = true := by
    simp only [gridB, Bool.and_eq_true, inB_iff]; omega
  go_enter Try.func89, Try.ntmps89
  go_wp2_with fail
  go_loopw [6] (fun s wr => ∃ (v : Value) (zs : List Int), zs.length ≤ 2 * n - 1 ∧ s = .int .i64 (zs.length : Int) ∧ FloorS w wr v zs ∧ Hid (zs = (floorRows 7 n).take zs.length)) (fun s _ => 2 * n - 1 - (intOf s).toNat)
  case atStart => exact ⟨.slice none 0 0, [], by simp, rfl, floorS_start w, rfl⟩
  case round =>
    obtain ⟨v, zs, hk, rfl, hr, HZ⟩ := hrel
    by_cases hlt : zs.length < 2 * n - 1
    · obtain ⟨r1, r2, r3, r5, r6⟩ := id hr
      have hc : wr.cell? ⟨w.heap.size + 1, 0, none⟩ = some v := r2.cell (by omega)
      have HR := Lib.hid hr
      have R3 := Lib.hid r3
      clear r1 r2 r3 hr
      by_cases h0 : zs.length = 0
      · have h0' : ((zs.length : Int) == 0) = true := by simp [h0]
        have HN := Lib.hid (floor_take0 7 n zs HZ.out h0); clear h0
        go_wp2_with fail
        refine (specGridOk_any _ _ _).mono ?_
        rintro e w1 ⟨rfl, rfl⟩
        go_wp2_with (at_builtin; refine wpList_append_lies _ rfl (.tmp 31) (.tmp 33) _ rfl (w.heap.size + 2) 3 i0 _ 1 8 Try.underlying34 hi0 hz0 hz1 hz2 rfl (by omega) v zs.length _ rfl (World.ownsRow.alloc R3.out _) ⟨wr.heap.size, 0, none⟩ 1 1 [.int .i64 6] rfl rfl (World.news_of_block (cs := #[.int .i64 6]) (t := 3) (fr := (0, 0)) (heap_alloc_new wr _)) (by simp [Value.oneCell']) (by omega) (by unfold maxLen; omega) (by omega) (by simp; omega) (wr.heap.size + 1) (by simp) ?_; intro gg cap w1 hown1 hgrow hat hlt1; obtain ⟨hs1, hs2, hs3⟩ := FloorS.step HR.out hown1 hgrow; have HS1 := Lib.hid hs1; clear hs1)
        go_roundw
        case rel => exact ⟨_, zs ++ [7 - 1], by simp; omega, by simp, HS1.out, HN⟩
        case measure => simp [intOf]; omega
      · have h0' : ((zs.length : Int) == 0) = false := by rw [beq_eq_false_iff_ne]; omega
        have HN := Lib.hid (floor_take1 7 n zs HZ.out (by omega) hlt); clear h0
        go_wp2_with fail
        refine (specGridOk_any _ _ _).mono ?_
        rintro e w1 ⟨rfl, rfl⟩
        go_wp2_with (at_builtin; refine wpList_append_lies _ rfl (.tmp 31) (.tmp 33) _ rfl (w.heap.size + 2) 3 i0 _ 1 8 Try.underlying34 hi0 hz0 hz1 hz2 rfl (by omega) v zs.length _ rfl (World.ownsRow.alloc R3.out _) ⟨wr.heap.size, 0, none⟩ 1 1 [.int .i64 7] rfl rfl (World.news_of_block (cs := #[.int .i64 7]) (t := 3) (fr := (0, 0)) (heap_alloc_new wr _)) (by simp [Value.oneCell']) (by omega) (by unfold maxLen; omega) (by omega) (by simp; omega) (wr.heap.size + 1) (by simp) ?_; intro gg cap w1 hown1 hgrow hat hlt1; obtain ⟨hs1, hs2, hs3⟩ := FloorS.step HR.out hown1 hgrow; have HS1 := Lib.hid hs1; clear hs1)
        go_roundw
        case rel => exact ⟨_, zs ++ [7], by simp; omega, by simp, HS1.out, HN⟩
        case measure => simp [intOf]; omega
    · obtain ⟨r1, r2, r3, r5, r6⟩ := id hr
      have hc : wr.cell? ⟨w.heap.size + 1, 0, none⟩ = some v := r2.cell (by omega)
      have hc0 := r1.cell (i := 0) (by omega)
      have hf0 := r1.frozen 0
      obtain ⟨A, cp, hv, _⟩ := r3.rd
      obtain ⟨hE, hR⟩ := floorS_end hr
      have HE : Hid (zs = floorRows 7 n) := by
        unfold Hid; rw [HZ.out, List.take_of_length_le]; simp [floorRows]; omega
      rw [HE.out] at hE
      have HEE := Lib.hid hE; have HRR := Lib.hid hR
      clear r1 r2 r3 hr hE hR
      subst hv
      go_wp2_with fail
      refine (specGridOk_any _ _ _).mono ?_
      rintro e w1 ⟨rfl, rfl⟩
      go_wp2_with fail
      refine bodyPost_ret (v := .agg #[.slice A zs.length cp]) (by have hR' := HRR.out; simp [results, Try.results89, go_sem, hR']) rfl ?_
      exact HEE.out
set_option maxRecDepth 100000 in
set_option maxHeartbeats 2000000 in
theorem specTreeFloor_at3 (n : Nat) (h1 : 1 ≤ n) (h4 : n ≤ 4) (w : World) :
    Calls Try.prog 89 #[.int .i64 3, .int .i64 n] w (RetFloor w (floorRows 31 n)) := by
  obtain ⟨i0, hi0, hz0, hz1, hz2⟩ := info_parts infoInt
  have hg : gridB 3 n = true := by
    simp only [gridB, Bool.and_eq_true, inB_iff]; omega
  go_enter Try.func89, Try.ntmps89
  go_wp2_with fail
  go_loopw [6] (fun s wr => ∃ (v : Value) (zs : List Int), zs.length ≤ 2 * n - 1 ∧ s = .int .i64 (zs.length : Int) ∧ FloorS w wr v zs ∧ Hid (zs = (floorRows 31 n).take zs.length)) (fun s _ => 2 * n - 1 - (intOf s).toNat)
  case atStart => exact ⟨.slice none 0 0, [], by simp, rfl, floorS_start w, rfl⟩
  case round =>
    obtain ⟨v, zs, hk, rfl, hr, HZ⟩ := hrel
    by_cases hlt : zs.length < 2 * n - 1
    · obtain ⟨r1, r2, r3, r5, r6⟩ := id hr
      have hc : wr.cell? ⟨w.heap.size + 1, 0, none⟩ = some v := r2.cell (by omega)
      have HR := Lib.hid hr
      have R3 := Lib.hid r3
      clear r1 r2 r3 hr
      by_cases h0 : zs.length = 0
      · have h0' : ((zs.length : Int) == 0) = true := by simp [h0]
        have HN := Lib.hid (floor_take0 31 n zs HZ.out h0); clear h0
        go_wp2_with fail
        refine (specGridOk_any _ _ _).mono ?_
        rintro e w1 ⟨rfl, rfl⟩
        go_wp2_with (at_builtin; refine wpList_append_lies _ rfl (.tmp 31) (.tmp 33) _ rfl (w.heap.size + 2) 3 i0 _ 1 8 Try.underlying34 hi0 hz0 hz1 hz2 rfl (by omega) v zs.length _ rfl (World.ownsRow.alloc R3.out _) ⟨wr.heap.size, 0, none⟩ 1 1 [.int .i64 30] rfl rfl (World.news_of_block (cs := #[.int .i64 30]) (t := 3) (fr := (0, 0)) (heap_alloc_new wr _)) (by simp [Value.oneCell']) (by omega) (by unfold maxLen; omega) (by omega) (by simp; omega) (wr.heap.size + 1) (by simp) ?_; intro gg cap w1 hown1 hgrow hat hlt1; obtain ⟨hs1, hs2, hs3⟩ := FloorS.step HR.out hown1 hgrow; have HS1 := Lib.hid hs1; clear hs1)
        go_roundw
        case rel => exact ⟨_, zs ++ [31 - 1], by simp; omega, by simp, HS1.out, HN⟩
        case measure => simp [intOf]; omega
      · have h0' : ((zs.length : Int) == 0) = false := by rw [beq_eq_false_iff_ne]; omega
        have HN := Lib.hid (floor_take1 31 n zs HZ.out (by omega) hlt); clear h0
        go_wp2_with fail
        refine (specGridOk_any _ _ _).mono ?_
        rintro e w1 ⟨rfl, rfl⟩
        go_wp2_with (at_builtin; refine wpList_append_lies _ rfl (.tmp 31) (.tmp 33) _ rfl (w.heap.size + 2) 3 i0 _ 1 8 Try.underlying34 hi0 hz0 hz1 hz2 rfl (by omega) v zs.length _ rfl (World.ownsRow.alloc R3.out _) ⟨wr.heap.size, 0, none⟩ 1 1 [.int .i64 31] rfl rfl (World.news_of_block (cs := #[.int .i64 31]) (t := 3) (fr := (0, 0)) (heap_alloc_new wr _)) (by simp [Value.oneCell']) (by omega) (by unfold maxLen; omega) (by omega) (by simp; omega) (wr.heap.size + 1) (by simp) ?_; intro gg cap w1 hown1 hgrow hat hlt1; obtain ⟨hs1, hs2, hs3⟩ := FloorS.step HR.out hown1 hgrow; have HS1 := Lib.hid hs1; clear hs1)
        go_roundw
        case rel => exact ⟨_, zs ++ [31], by simp; omega, by simp, HS1.out, HN⟩
        case measure => simp [intOf]; omega
    · obtain ⟨r1, r2, r3, r5, r6⟩ := id hr
      have hc : wr.cell? ⟨w.heap.size + 1, 0, none⟩ = some v := r2.cell (by omega)
      have hc0 := r1.cell (i := 0) (by omega)
      have hf0 := r1.frozen 0
      obtain ⟨A, cp, hv, _⟩ := r3.rd
      obtain ⟨hE, hR⟩ := floorS_end hr
      have HE : Hid (zs = floorRows 31 n) := by
        unfold Hid; rw [HZ.out, List.take_of_length_le]; simp [floorRows]; omega
      rw [HE.out] at hE
      have HEE := Lib.hid hE; have HRR := Lib.hid hR
      clear r1 r2 r3 hr hE hR
      subst hv
      go_wp2_with fail
      refine (specGridOk_any _ _ _).mono ?_
      rintro e w1 ⟨rfl, rfl⟩
      go_wp2_with fail
      refine bodyPost_ret (v := .agg #[.slice A zs.length cp]) (by have hR' := HRR.out; simp [results, Try.results89, go_sem, hR']) rfl ?_
      exact HEE.out
set_option maxRecDepth 100000 in
set_option maxHeartbeats 2000000 in
theorem specTreeFloor_at4 (n : Nat) (h1 : 1 ≤ n) (h4 : n ≤ 4) (w : World) :
    Calls Try.prog 89 #[.int .i64 4, .int .i64 n] w (RetFloor w (floorRows 127 n)) := by
  obtain ⟨i0, hi0, hz0, hz1, hz2⟩ := info_parts infoInt
  have hg : gridB 4 n = true := by
    simp only [gridB, Bool.and_eq_true, inB_iff]; omega
  go_enter Try.func89, Try.ntmps89
  go_wp2_with fail
  go_loopw [6] (fun s wr => ∃ (v : Value) (zs : List Int), zs.length ≤ 2 * n - 1 ∧ s = .int .i64 (zs.length : Int) ∧ FloorS w wr v zs ∧ Hid (zs = (floorRows 127 n).take zs.length)) (fun s _ => 2 * n - 1 - (intOf s).toNat)
  case atStart => exact ⟨.slice none 0 0, [], by simp, rfl, floorS_start w, rfl⟩
  case round =>
    obtain ⟨v, zs, hk, rfl, hr, HZ⟩ := hrel
    by_cases hlt : zs.length < 2 * n - 1
    · obtain ⟨r1, r2, r3, r5, r6⟩ := id hr
      have hc : wr.cell? ⟨w.heap.size + 1, 0, none⟩ = some v := r2.cell (by omega)
      have HR := Lib.hid hr
      have R3 := Lib.hid r3
      clear r1 r2 r3 hr
      by_cases h0 : zs.length = 0
      · have h0' : ((zs.length : Int) == 0) = true := by simp [h0]
        have HN := Lib.hid (floor_take0 127 n zs HZ.out h0); clear h0
        go_wp2_with fail
        refine (specGridOk_any _ _ _).mono ?_
        rintro e w1 ⟨rfl, rfl⟩
        go_wp2_with (at_builtin; refine wpList_append_lies _ rfl (.tmp 31) (.tmp 33) _ rfl (w.heap.size + 2) 3 i0 _ 1 8 Try.underlying34 hi0 hz0 hz1 hz2 rfl (by omega) v zs.length _ rfl (World.ownsRow.alloc R3.out _) ⟨wr.heap.size, 0, none⟩ 1 1 [.int .i64 126] rfl rfl (World.news_of_block (cs := #[.int .i64 126]) (t := 3) (fr := (0, 0)) (heap_alloc_new wr _)) (by simp [Value.oneCell']) (by omega) (by unfold maxLen; omega) (by omega) (by simp; omega) (wr.heap.size + 1) (by simp) ?_; intro gg cap w1 hown1 hgrow hat hlt1; obtain ⟨hs1, hs2, hs3⟩ := FloorS.step HR.out hown1 hgrow; have HS1 := Lib.hid hs1; clear hs1)
        go_roundw
        case rel => exact ⟨_, zs ++ [127 - 1], by simp; omega, by simp, HS1.out, HN⟩
        case measure => simp [intOf]; omega
      · have h0' : ((zs.length : Int) == 0) = false := by rw [beq_eq_false_iff_ne]; omega
        have HN := Lib.hid (floor_take1 127 n zs HZ.out (by omega) hlt); clear h0
        go_wp2_with fail
        refine (specGridOk_any _ _ _).mono ?_
        rintro e w1 ⟨rfl, rfl⟩
        go_wp2_with (at_builtin; refine wpList_append_lies _ rfl (.tmp 31) (.tmp 33) _ rfl (w.heap.size + 2) 3 i0 _ 1 8 Try.underlying34 hi0 hz0 hz1 hz2 rfl (by omega) v zs.length _ rfl (World.ownsRow.alloc R3.out _) ⟨wr.heap.size, 0, none⟩ 1 1 [.int .i64 127] rfl rfl (World.news_of_block (cs := #[.int .i64 127]) (t := 3) (fr := (0, 0)) (heap_alloc_new wr _)) (by simp [Value.oneCell']) (by omega) (by unfold maxLen; omega) (by omega) (by simp; omega) (wr.heap.size + 1) (by simp) ?_; intro gg cap w1 hown1 hgrow hat hlt1; obtain ⟨hs1, hs2, hs3⟩ := FloorS.step HR.out hown1 hgrow; have HS1 := Lib.hid hs1; clear hs1)
        go_roundw
        case rel => exact ⟨_, zs ++ [127], by simp; omega, by simp, HS1.out, HN⟩
        case measure => simp [intOf]; omega
    · obtain ⟨r1, r2, r3, r5, r6⟩ := id hr
      have hc : wr.cell? ⟨w.heap.size + 1, 0, none⟩ = some v := r2.cell (by omega)
      have hc0 := r1.cell (i := 0) (by omega)
      have hf0 := r1.frozen 0
      obtain ⟨A, cp, hv, _⟩ := r3.rd
      obtain ⟨hE, hR⟩ := floorS_end hr
      have HE : Hid (zs = floorRows 127 n) := by
        unfold Hid; rw [HZ.out, List.take_of_length_le]; simp [floorRows]; omega
      rw [HE.out] at hE
      have HEE := Lib.hid hE; have HRR := Lib.hid hR
      clear r1 r2 r3 hr hE hR
      subst hv
      go_wp2_with fail
      refine (specGridOk_any _ _ _).mono ?_
      rintro e w1 ⟨rfl, rfl⟩
      go_wp2_with fail
      refine bodyPost_ret (v := .agg #[.slice A zs.length cp]) (by have hR' := HRR.out; simp [results, Try.results89, go_sem, hR']) rfl ?_
      exact HEE.out

theorem specTreeFloor_any (a b : Int) (w : World) :
    Calls Try.prog 89 #[.int .i64 a, .int .i64 b] w (RetFloor w (floorZ a b)) := by
  cases hg : gridB a b
  · rw [show floorZ a b = [] from by rw [floorZ, hg]; rfl]
    go_enter Try.func89, Try.ntmps89
    go_wp2_with fail
    go_loopw [6] (fun s wr => s = .int .i64 0 ∧ wr = ((w.alloc (.cells #[.slice none 0 0] 97)).alloc (.cells #[.slice none 0 0] 97))) (fun _ _ => 0)
    case atStart => exact ⟨rfl, rfl⟩
    case round =>
      obtain ⟨rfl, rfl⟩ := hrel
      go_wp2_with fail
      refine (specGridOk_any _ _ _).mono ?_
      rintro e w1 ⟨rfl, rfl⟩
      go_wp2_with fail
      refine bodyPost_ret (v := .agg #[.slice none 0 0]) (by simp [results, Try.results89, go_sem]) rfl ?_
      refine ⟨.slice none 0 0, rfl, World.ownsRow_nil _ _ _ _, ?_⟩
      repeat (first | exact Below.refl _ _ | refine Below.setCell ?_ (by simp <;> omega) _ | refine Below.alloc ?_ (by simp <;> omega) _)
  · have h := hg
    simp only [gridB, Bool.and_eq_true, inB_iff] at h
    obtain ⟨⟨g1, g2⟩, g3, g4⟩ := h
    obtain ⟨n, rfl⟩ := Int.eq_ofNat_of_zero_le (show 0 ≤ b by omega)
    rcases (show a = 1 ∨ a = 2 ∨ a = 3 ∨ a = 4 by omega) with rfl | rfl | rfl | rfl
    · rw [show floorZ 1 n = floorRows 1 n from by rw [floorZ, hg]; rfl]; exact specTreeFloor_at1 n (by omega) (by omega) w
    · rw [show floorZ 2 n = floorRows 7 n from by rw [floorZ, hg]; rfl]; exact specTreeFloor_at2 n (by omega) (by omega) w
    · rw [show floorZ 3 n = floorRows 31 n from by rw [floorZ, hg]; rfl]; exact specTreeFloor_at3 n (by omega) (by omega) w
    · rw [show floorZ 4 n = floorRows 127 n from by rw [floorZ, hg]; rfl]; exact specTreeFloor_at4 n (by omega) (by omega) w
end Go.Proofs.Ytpejphholomenaa
