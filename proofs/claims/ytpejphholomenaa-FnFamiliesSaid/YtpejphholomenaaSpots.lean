/- What a slice of points reads as; contracts of szSpotS, toSpotS (a copy in a new block), eqSpotS. -/
import Derived.Test.YtpejphholomenaaSpot
import Derived.Test.YtpejphholomenaaIntS
import Derived.Deep.OwnRows
import Derived.Deep.DeepFit
namespace Go.Proofs.Ytpejphholomenaa
open Go.RowKit

def px (ps : List (Int × Int)) (j : Nat) : Int := (ps.getD j (0, 0)).1
def py (ps : List (Int × Int)) (j : Nat) : Int := (ps.getD j (0, 0)).2
/-- From the address A on stand the points ps, below block B. -/
def RdQ (w : World) (B : Nat) (A : Option Addr) (ps : List (Int × Int)) : Prop :=
  ∀ j, j < ps.length → ∃ ad, A = some ad ∧ ad.block < B ∧ w.cell? (ad.add (j * 2)) = some (.int .i64 (px ps j)) ∧ w.cell? ⟨(ad.add (j * 2)).block, (ad.add (j * 2)).off + 1, none⟩ = some (.int .i64 (py ps j))
def RdP (w : World) (B : Nat) (v : Value) (ps : List (Int × Int)) : Prop :=
  ∃ A c, v = .slice A ps.length c ∧ ps.length ≤ c ∧ c ≤ maxLen ∧ RdQ w B A ps
theorem RdQ.below {w w' : World} {B : Nat} {A : Option Addr} {ps : List (Int × Int)} (h : RdQ w B A ps) (hb : Below B w w') : RdQ w' B A ps := fun j hj => by
  obtain ⟨ad, e, h1, h2, h3⟩ := h j hj
  exact ⟨ad, e, h1, (hb.cell (by rw [addBlock]; exact h1)).trans h2, (hb.cell (by show (ad.add (j * 2)).block < B; rw [addBlock]; exact h1)).trans h3⟩
theorem RdP.below {w w' : World} {B : Nat} {v : Value} {ps : List (Int × Int)} (h : RdP w B v ps) (hb : Below B w w') : RdP w' B v ps := by
  obtain ⟨A, c, e, h1, h2, h3⟩ := h; exact ⟨A, c, e, h1, h2, h3.below hb⟩

theorem infoSpot : (Try.prog.info? 32).map (fun i => (i.zero, i.size, i.bytes)) = some (some (.agg #[.int .i64 0, .int .i64 0]), 2, 16) := by kernel_rfl

/-- make of elements of several cells, at every world. -/
theorem mk_cells {P : Program} (t e : TypeId) (z : Value) (size bytes : Nat) (ht : P.underlying t = some (.slice e)) (hinfo : (P.info? e).map (fun i => (i.zero, i.size, i.bytes)) = some (some z, size, bytes))
    (n : Nat) (hb : bytes * n ≤ 281474976710656) (h63 : n ≤ 9223372036854775807) (w : World) :
    (Instr.makeSlice t (.int .i64 (n : Int)) (.int .i64 (n : Int))).run P w = .ok (.slice (some ⟨w.heap.size, 0, none⟩) n n) (w.alloc (.cells (madeCells z.cells (n * size)) e)) := by
  obtain ⟨i, hi, hzz⟩ := Option.map_eq_some_iff.1 hinfo
  simp only [Prod.mk.injEq] at hzz
  obtain ⟨hz, hs, hby⟩ := hzz
  have hb' : (i.bytes : Int) * (n : Int) ≤ 281474976710656 := by
    have h : ((i.bytes * n : Nat) : Int) ≤ 281474976710656 := by rw [hby]; omega
    rwa [Int.natCast_mul] at h
  have hr := run_make (P := P) w t e i z ht hi hz .i64 .i64 n n (by omega) (Int.le_refl _) hb' (by omega)
  simp only [Int.toNat_natCast, hs] at hr
  exact hr

/-- The cells of points. -/
def cellP (ps : List (Int × Int)) (i : Nat) : Value := if i % 2 = 0 then .int .i64 (px ps (i / 2)) else .int .i64 (py ps (i / 2))
theorem cellP_even (ps : List (Int × Int)) (j : Nat) : cellP ps (j * 2) = .int .i64 (px ps j) := by
  rw [cellP, if_pos (by omega), show j * 2 / 2 = j by omega]
theorem cellP_odd (ps : List (Int × Int)) (j : Nat) : cellP ps (j * 2 + 1) = .int .i64 (py ps j) := by
  rw [cellP, if_neg (by omega), show (j * 2 + 1) / 2 = j by omega]

theorem addOne (a : Addr) : (⟨a.block, a.off + 1, none⟩ : Addr) = a.add 1 := by simp [Addr.add]
/-- v owns a row of points in a block from lo on. -/
def OwnP (w : World) (lo : Nat) (v : Value) (ps : List (Int × Int)) : Prop := w.ownsRow lo 32 2 v ps.length ((List.range (ps.length * 2)).map (cellP ps))
theorem OwnP.rd {w : World} {lo : Nat} {v : Value} {ps : List (Int × Int)} (h : OwnP w lo v ps) : RdP w w.heap.size v ps := by
  rcases h.2 with ⟨rfl, h0⟩ | ⟨g, cap, cur, rfl, hb, hh, hn, hm, hs, ht⟩
  · have e : ps = [] := List.eq_nil_of_length_eq_zero h0
    subst e
    exact ⟨none, 0, rfl, Nat.le_refl _, Nat.zero_le _, fun j hj => absurd hj (by simp)⟩
  · refine ⟨some ⟨g, 0, none⟩, cap, rfl, hn, hm, fun j hj => ⟨⟨g, 0, none⟩, rfl, (World.ownsRow.lt h g rfl).2, ?_, ?_⟩⟩
    · refine World.ownsRow.cells h rfl _ _ ?_
      rw [List.getElem?_map, List.getElem?_range (by omega), Option.map_some, cellP_even]
    · rw [addOne, addAdd]
      refine World.ownsRow.cells h rfl _ _ ?_
      rw [List.getElem?_map, List.getElem?_range (by omega), Option.map_some, cellP_odd]
theorem OwnP.below {w w' : World} {lo : Nat} {v : Value} {ps : List (Int × Int)} (h : OwnP w lo v ps) (hb : Below w.heap.size w w') : OwnP w' lo v ps := by
  refine World.ownsRow.kept h (row := none) ⟨hb.os, hb.tape, hb.output, hb.size, fun k hk _ => hb.block k hk⟩ ?_
  cases v.ownBlock
  · exact .inl rfl
  · exact .inr (by simp)
theorem OwnP.of_row {w : World} {lo g : Nat} {ps : List (Int × Int)} (hg : lo ≤ g) (hl : ps.length ≤ 9223372036854775807) (h : w.rowIs g 32 (ps.length * 2) (cellP ps)) : OwnP w lo (.slice (some ⟨g, 0, none⟩) ps.length ps.length) ps := by
  obtain ⟨c, hb, hs, hc⟩ := h
  refine ⟨by simp, .inr ⟨g, ps.length, c, rfl, hg, hb, Nat.le_refl _, by unfold maxLen; omega, by omega, ?_⟩⟩
  rw [List.take_of_length_le (by simp; omega)]
  apply List.ext_getElem?
  intro j
  by_cases hj : j < ps.length * 2
  · rw [Array.getElem?_toList, hc j hj, List.getElem?_map, List.getElem?_range hj, Option.map_some]
  · rw [List.getElem?_eq_none (by simp; omega), List.getElem?_eq_none (by simp; omega)]
def RetOwnP (w : World) (ps : List (Int × Int)) (e : Ending) (w' : World) : Prop := ∃ v, e = .returned v ∧ OwnP w' w.heap.size v ps ∧ Below w.heap.size w w'

theorem spots_start (w : World) (n : Nat) (ps : List (Int × Int)) (t : TypeId) : (w.alloc (.cells (madeCells #[.int .i64 0, .int .i64 0] (n * 2)) t)).rowIs w.heap.size t (n * 2) (fun j => if j < 0 * 2 then cellP ps j else .int .i64 0) := by
  have h := World.rowIs_alloc w (madeCells #[.int .i64 0, .int .i64 0] (n * 2)) t (fun _ => .int .i64 0) (fun i hi => by
    have hi' : i < n * 2 := by simpa [size_madeCells] using hi
    have h2 : i % 2 = 0 ∨ i % 2 = 1 := by omega
    rcases h2 with h2 | h2 <;> simp [madeCells, hi', h2])
  rw [size_madeCells] at h
  exact h.congr fun i _ => by simp
theorem spots_step {w1 : World} {g k n : Nat} {t : TypeId} {ps : List (Int × Int)} (h : w1.rowIs g t (n * 2) (fun j => if j < k * 2 then cellP ps j else .int .i64 0)) :
    ((w1.setCell ⟨g, k * 2, none⟩ (.int .i64 (px ps k))).setCell ⟨g, k * 2 + 1, none⟩ (.int .i64 (py ps k))).rowIs g t (n * 2) (fun j => if j < (k + 1) * 2 then cellP ps j else .int .i64 0) := by
  refine ((h.set (k * 2) _).set (k * 2 + 1) _).congr fun j _ => ?_
  by_cases e : j = k * 2 + 1
  · subst e; rw [if_pos rfl, if_pos (by omega), cellP_odd]
  · rw [if_neg e]
    by_cases e2 : j = k * 2
    · subst e2; rw [if_pos rfl, if_pos (by omega), cellP_even]
    · rw [if_neg e2]
      by_cases e3 : j < k * 2
      · rw [if_pos e3, if_pos (by omega)]
      · rw [if_neg e3, if_neg (by omega)]

end Go.Proofs.Ytpejphholomenaa
