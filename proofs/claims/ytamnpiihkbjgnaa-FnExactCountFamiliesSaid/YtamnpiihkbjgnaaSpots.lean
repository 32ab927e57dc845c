/- What a slice of points reads as; contracts of szSpotS, toSpotS (a copy in a new block), eqSpotS. -/
import Derived.Test.YtamnpiihkbjgnaaSpot
import Derived.Test.YtamnpiihkbjgnaaIntS
import Derived.Deep.OwnRows
import Derived.Deep.DeepFit
namespace Go.Proofs.Ytamnpiihkbjgnaa
open Go.RowKit

def px (ps : List (Int × Int)) (j : Nat) : Int := (ps.getD j (0, 0)).1
def py (ps : List (Int × Int)) (j : Nat) : Int := (ps.getD j (0, 0)).2
/-- From the address A on stand the points ps, below block B. -/
def RdQ (w : World) (B : Nat) (A : Option Addr) (ps : List (Int × Int)) : Prop :=
  ∀ j, j < ps.length → ∃ ad, A = some ad ∧ ad.block < B ∧ w.cell? (ad.add (j * 2)) = some (.int .i64 (px ps j)) ∧ w.cell? ⟨(ad.add (j * 2)).block, (ad.add (j * 2)).off + 1, none⟩ = some (.int .i64 (py ps j))
def RdP (w : World) (B : Nat) (v : Value) (ps : List (Int × Int)) : Prop :=
  ∃ A c, v = .slice A ps.length c ∧ ps.length ≤ c ∧ c ≤ maxLen ∧ RdQ w B A ps
theorem RdQ.below {w w' : World} {B : Nat} {A : Option Addr} {ps : List (Int × Int)} (h : RdQ w B A ps) (hb : Below B w w') : RdQ w' B A ps := fun j hj => by
  obtain ⟨ad, e, h1, h2, h3⟩ := h j hj
  exact ⟨ad, e, h1, (hb.cell (by rw [addBlock]; exact h1)).trans h2, (hb.cell (by show (ad.add (j * 2)).block < B; rw [addBlock]; exact h1)).trans h3⟩
theorem RdP.below {w w' : World} {B : Nat} {v : Value} {ps : List (Int × Int)} (h : RdP w B v ps) (hb : Below B w w') : RdP w' B v ps := by
  obtain ⟨A, c, e, h1, h2, h3⟩ := h; exact ⟨A, c, e, h1, h2, h3.below hb⟩

theorem szSpotS_any (v : Value) (ps : List (Int × Int)) (left : Int) (B : Nat) (w : World) (h : RdP w B v ps) (h1 : 0 ≤ left) (h2 : left ≤ 1099511627776) :
    Calls Try.prog 15 #[v, .int .i64 left] w fun e w' => e = .returned (.int .i64 (szZ ps.length left)) ∧ w = w' := by
  obtain ⟨A, c, rfl, g1, g2, g3⟩ := h
  unfold maxLen at g2
  have hz : szZ ps.length left = if left - (ps.length : Int) < 0 then -1 else left - (ps.length : Int) := rfl
  by_cases hlt : left - (ps.length : Int) < 0
  · rw [if_pos hlt] at hz
    rw [hz]; clear hz
    go_enter Try.func15, Try.ntmps15
    go_wp2
    go_ret
    exact ⟨rfl, rfl⟩
  · rw [if_neg hlt] at hz
    rw [hz]; clear hz
    go_enter Try.func15, Try.ntmps15
    go_wp2
    go_ret
    exact ⟨rfl, rfl⟩

theorem infoSpot : (Try.prog.info? 69).map (fun i => (i.zero, i.size, i.bytes)) = some (some (.agg #[.int .i64 0, .int .i64 0]), 2, 16) := by kernel_rfl

/-- make of elements of several cells, at every world. -/
theorem mk_cells {P : Program} (t e : TypeId) (z : Value) (size bytes : Nat) (ht : P.underlying t = some (.slice e)) (hinfo : (P.info? e).map (fun i => (i.zero, i.size, i.bytes)) = some (some z, size, bytes))
    (n : Nat) (hb : bytes * n ≤ 281474976710656) (h63 : n ≤ 9223372036854775807) (w : World) :
    (Instr.makeSlice t (.int .i64 (n : Int)) (.int .i64 (n : Int))).run P w = .ok (.slice (some ⟨w.heap.size, 0, none⟩) n n) (w.alloc (.cells (madeCells z.cells (n * size)) e)) := by
  obtain ⟨i, hi, hzz⟩ := Option.map_eq_some_iff.1 hinfo
  simp only [Prod.mk.injEq] at hzz
  obtain ⟨hz, hs, hby⟩ := hzz
  have hb' : (i.bytes : Int) * (n : Int) ≤ 281474976710656 := by
    have h : ((i.bytes * n : Nat) : Int) ≤ 281474976710656 := by rw [hby]; omega
    rwa [Int.natCast_mul] at h
  have hr := run_make (P := P) w t e i z ht hi hz .i64 .i64 n n (by omega) (Int.le_refl _) hb' (by omega)
  simp only [Int.toNat_natCast, hs] at hr
  exact hr

/-- The cells of points. -/
def cellP (ps : List (Int × Int)) (i : Nat) : Value := if i % 2 = 0 then .int .i64 (px ps (i / 2)) else .int .i64 (py ps (i / 2))
theorem cellP_even (ps : List (Int × Int)) (j : Nat) : cellP ps (j * 2) = .int .i64 (px ps j) := by
  rw [cellP, if_pos (by omega), show j * 2 / 2 = j by omega]
theorem cellP_odd (ps : List (Int × Int)) (j : Nat) : cellP ps (j * 2 + 1) = .int .i64 (py ps j) := by
  rw [cellP, if_neg (by omega), show (j * 2 + 1) / 2 = j by omega]

theorem addOne (a : Addr) : (⟨a.block, a.off + 1, none⟩ : Addr) = a.add 1 := by simp [Addr.add]
/-- v owns a row of points in a block from lo on. -/
def OwnP (w : World) (lo : Nat) (v : Value) (ps : List (Int × Int)) : Prop := w.ownsRow lo 69 2 v ps.length ((List.range (ps.length * 2)).map (cellP ps))
theorem OwnP.rd {w : World} {lo : Nat} {v : Value} {ps : List (Int × Int)} (h : OwnP w lo v ps) : RdP w w.heap.size v ps := by
  rcases h.2 with ⟨rfl, h0⟩ | ⟨g, cap, cur, rfl, hb, hh, hn, hm, hs, ht⟩
  · have e : ps = [] := List.eq_nil_of_length_eq_zero h0
    subst e
    exact ⟨none, 0, rfl, Nat.le_refl _, Nat.zero_le _, fun j hj => absurd hj (by simp)⟩
  · refine ⟨some ⟨g, 0, none⟩, cap, rfl, hn, hm, fun j hj => ⟨⟨g, 0, none⟩, rfl, (World.ownsRow.lt h g rfl).2, ?_, ?_⟩⟩
    · refine World.ownsRow.cells h rfl _ _ ?_
      rw [List.getElem?_map, List.getElem?_range (by omega), Option.map_some, cellP_even]
    · rw [addOne, addAdd]
      refine World.ownsRow.cells h rfl _ _ ?_
      rw [List.getElem?_map, List.getElem?_range (by omega), Option.map_some, cellP_odd]
theorem OwnP.below {w w' : World} {lo : Nat} {v : Value} {ps : List (Int × Int)} (h : OwnP w lo v ps) (hb : Below w.heap.size w w') : OwnP w' lo v ps := by
  refine World.ownsRow.kept h (row := none) ⟨hb.os, hb.tape, hb.output, hb.size, fun k hk _ => hb.block k hk⟩ ?_
  cases v.ownBlock
  · exact .inl rfl
  · exact .inr (by simp)
theorem OwnP.of_row {w : World} {lo g : Nat} {ps : List (Int × Int)} (hg : lo ≤ g) (hl : ps.length ≤ 9223372036854775807) (h : w.rowIs g 69 (ps.length * 2) (cellP ps)) : OwnP w lo (.slice (some ⟨g, 0, none⟩) ps.length ps.length) ps := by
  obtain ⟨c, hb, hs, hc⟩ := h
  refine ⟨by simp, .inr ⟨g, ps.length, c, rfl, hg, hb, Nat.le_refl _, by unfold maxLen; omega, by omega, ?_⟩⟩
  rw [List.take_of_length_le (by simp; omega)]
  apply List.ext_getElem?
  intro j
  by_cases hj : j < ps.length * 2
  · rw [Array.getElem?_toList, hc j hj, List.getElem?_map, List.getElem?_range hj, Option.map_some]
  · rw [List.getElem?_eq_none (by simp; omega), List.getElem?_eq_none (by simp; omega)]
def RetOwnP (w : World) (ps : List (Int × Int)) (e : Ending) (w' : World) : Prop := ∃ v, e = .returned v ∧ OwnP w' w.heap.size v ps ∧ Below w.heap.size w w'

theorem spots_start (w : World) (n : Nat) (ps : List (Int × Int)) (t : TypeId) : (w.alloc (.cells (madeCells #[.int .i64 0, .int .i64 0] (n * 2)) t)).rowIs w.heap.size t (n * 2) (fun j => if j < 0 * 2 then cellP ps j else .int .i64 0) := by
  have h := World.rowIs_alloc w (madeCells #[.int .i64 0, .int .i64 0] (n * 2)) t (fun _ => .int .i64 0) (fun i hi => by
    have hi' : i < n * 2 := by simpa [size_madeCells] using hi
    have h2 : i % 2 = 0 ∨ i % 2 = 1 := by omega
    rcases h2 with h2 | h2 <;> simp [madeCells, hi', h2])
  rw [size_madeCells] at h
  exact h.congr fun i _ => by simp
theorem spots_step {w1 : World} {g k n : Nat} {t : TypeId} {ps : List (Int × Int)} (h : w1.rowIs g t (n * 2) (fun j => if j < k * 2 then cellP ps j else .int .i64 0)) :
    ((w1.setCell ⟨g, k * 2, none⟩ (.int .i64 (px ps k))).setCell ⟨g, k * 2 + 1, none⟩ (.int .i64 (py ps k))).rowIs g t (n * 2) (fun j => if j < (k + 1) * 2 then cellP ps j else .int .i64 0) := by
  refine ((h.set (k * 2) _).set (k * 2 + 1) _).congr fun j _ => ?_
  by_cases e : j = k * 2 + 1
  · subst e; rw [if_pos rfl, if_pos (by omega), cellP_odd]
  · rw [if_neg e]
    by_cases e2 : j = k * 2
    · subst e2; rw [if_pos rfl, if_pos (by omega), cellP_even]
    · rw [if_neg e2]
      by_cases e3 : j < k * 2
      · rw [if_pos e3, if_pos (by omega)]
      · rw [if_neg e3, if_neg (by omega)]

set_option maxHeartbeats 1000000 in
theorem toSpotS_any (v : Value) (ps : List (Int × Int)) (B : Nat) (w : World) (h : RdP w B v ps) (hB : B ≤ w.heap.size) (hl : ps.length ≤ 1048576) :
    Calls Try.prog 17 #[v] w (RetOwnP w ps) := by
  obtain ⟨A, c, rfl, h1, h2, h3⟩ := h
  unfold maxLen at h2
  have H3 := Lib.hid h3; clear h3
  have hmk := mk_cells (P := Try.prog) 25 69 _ 2 16 Try.underlying25 infoSpot ps.length (by omega) (by omega)
  go_enter Try.func17, Try.ntmps17
  go_wp2_with fail
  clear hmk
  go_loopw [4] (fun i wr => ∃ k : Nat, k ≤ ps.length ∧ i = .int .i64 k ∧ Below w.heap.size w wr ∧ w.heap.size + 1 ≤ wr.heap.size ∧ wr.rowIs w.heap.size 69 (ps.length * 2) (fun j => if j < k * 2 then cellP ps j else .int .i64 0)) (fun i _ => ps.length - (intOf i).toNat)
  case atStart => exact ⟨0, Nat.zero_le _, rfl, (Below.refl _ _).alloc (Nat.le_refl _) _, by simp, spots_start w _ ps _⟩
  case round =>
    obtain ⟨k, hk, rfl, hb, hsz, hrow⟩ := hrel
    by_cases hlt : k < ps.length
    · obtain ⟨ad, rfl, hbl, hx, hy⟩ := H3.out k hlt
      have hx' := (hb.cell (p := ad.add (k * 2)) (by rw [addBlock]; omega)).trans hx
      have hy' := (hb.cell (p := ⟨(ad.add (k * 2)).block, (ad.add (k * 2)).off + 1, none⟩) (by show (ad.add (k * 2)).block < w.heap.size; rw [addBlock]; omega)).trans hy
      have HRW := Lib.hid hrow; clear hrow
      clear hx hy
      go_wp2_with fail
      refine (toSpot_any _ _ _).mono ?_
      rintro e w1 ⟨rfl, hb1⟩
      have hrw1 := HRW.out.of_block (hb1.block _ (by omega))
      have hc0 := hrw1.cell (i := k * 2) (by omega)
      have hc1 := hrw1.cell (i := k * 2 + 1) (by omega)
      have hf := hrw1.frozen
      have HRW1 := Lib.hid hrw1; clear hrw1
      have hb2 := hb.trans (hb1.mono (by omega))
      have hs2 := hb1.size
      go_wp2_with fail
      go_roundw
      case rel => exact ⟨k + 1, by omega, by go_num, (hb2.setCell (Nat.le_refl _) _).setCell (Nat.le_refl _) _, by simp; omega, spots_step HRW1.out⟩
      case measure => simp [intOf]; omega
    · go_wp2_with fail
      go_ret
      exact ⟨_, rfl, OwnP.of_row (Nat.le_refl _) (by omega) (hrow.congr fun j hj => by rw [if_pos (by omega)]), hb⟩
end Go.Proofs.Ytamnpiihkbjgnaa
