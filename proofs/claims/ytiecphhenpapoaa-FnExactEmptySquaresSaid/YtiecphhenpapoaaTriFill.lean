/- A made slice of structs of two integers and a bool, filled one by one. No function of the program is named here. -/
import Derived.Test.YtiecphhenpapoaaTri
namespace Go.Proofs.Ytiecphhenpapoaa
open Go.RowKit

def triFill (ls : List Lk) (k : Nat) : List Lk := (List.range ls.length).map fun i => if i < k then ls.getD i (0, 0, false) else (0, 0, false)
theorem triFill_length (ls : List Lk) (k : Nat) : (triFill ls k).length = ls.length := by simp [triFill]
theorem triFill_all (ls : List Lk) (k : Nat) (h : ls.length ≤ k) : triFill ls k = ls := by
  apply List.ext_getElem
  · exact triFill_length _ _
  · intro i h1 h2; simp [triFill, h2, show i < k by omega]
theorem triFill_set (ls : List Lk) (k : Nat) (_h : k < ls.length) : (triFill ls k).set k (lx ls k, ly ls k, ld ls k) = triFill ls (k + 1) := by
  apply List.ext_getElem
  · simp [triFill]
  · intro i h1 h2
    rw [List.getElem_set]
    by_cases e : k = i
    · subst e; simp [triFill, lx, ly, ld]
    · by_cases e2 : i < k
      · simp [triFill, e, e2, show i < k + 1 by omega]
      · simp [triFill, e, e2, show ¬ i < k + 1 by omega]
/-- make of such a slice, at every world. -/
theorem mk_tri {P : Program} (t e : TypeId) (bytes : Nat) (ht : P.underlying t = some (.slice e)) (hinfo : (P.info? e).map (fun i => (i.zero, i.size, i.bytes)) = some (some (.agg #[.int .i64 0, .int .i64 0, .bool false]), 3, bytes))
    (n : Nat) (hb : bytes * n ≤ 281474976710656) (h63 : n ≤ 9223372036854775807) (w : World) :
    (Instr.makeSlice t (.int .i64 (n : Int)) (.int .i64 (n : Int))).run P w = .ok (.slice (some ⟨w.heap.size, 0, none⟩) n n) (w.alloc (.cells (madeCells #[.int .i64 0, .int .i64 0, .bool false] (n * 3)) e)) := by
  obtain ⟨i, hi, hzz⟩ := Option.map_eq_some_iff.1 hinfo
  simp only [Prod.mk.injEq] at hzz
  obtain ⟨hz, hs, hby⟩ := hzz
  have hb' : (i.bytes : Int) * (n : Int) ≤ 281474976710656 := by
    have h : ((i.bytes * n : Nat) : Int) ≤ 281474976710656 := by rw [hby]; omega
    rwa [Int.natCast_mul] at h
  have hr := run_make (P := P) w t e i _ ht hi hz .i64 .i64 n n (by omega) (Int.le_refl _) hb' (by omega)
  simp only [Int.toNat_natCast, hs] at hr
  exact hr
theorem triMade {P : Program} {E : El Lk} (hE : E.Ok P) (hs : E.s = 3) (hf : ∀ l, E.f l = triC l) (w : World) (ls : List Lk) (hl : ls.length ≤ 9223372036854775807) :
    OwnF E (w.alloc (.cells (madeCells #[.int .i64 0, .int .i64 0, .bool false] (ls.length * 3)) E.e)) w.heap.size (.slice (some ⟨w.heap.size, 0, none⟩) ls.length ls.length) (triFill ls 0) := by
  have hlit := World.ownsRow_lit (base := w.heap.size) (e := E.e) (size := E.s) w (madeCells #[.int .i64 0, .int .i64 0, .bool false] (ls.length * 3)) ls.length (Nat.le_refl _) (by simp [maxLen]; omega) (by rw [size_madeCells, hs])
  unfold OwnF
  rw [triFill_length]
  have e : (madeCells #[.int .i64 0, .int .i64 0, .bool false] (ls.length * 3)).toList = (triFill ls 0).flatMap E.f := by
    apply List.ext_getElem?
    intro j
    have hlen := flat_length hE.len (triFill ls 0)
    rw [triFill_length, hs] at hlen
    by_cases hj : j < ls.length * 3
    · have h3 : j / 3 < ls.length := by omega
      have ej : j = j / 3 * 3 + j % 3 := by omega
      have hg := flat_get hE.len (triFill ls 0) (j / 3) (j % 3) (0, 0, false) (by simp [triFill, h3]) (by rw [hs]; omega)
      rw [hs, ← ej, hf] at hg
      rw [hg, Array.getElem?_toList]
      have h2 : j % 3 = 0 ∨ j % 3 = 1 ∨ j % 3 = 2 := by omega
      rcases h2 with h2 | h2 | h2 <;> simp [madeCells, hj, h2, triC]
    · rw [List.getElem?_eq_none (by rw [Array.length_toList, size_madeCells]; omega), List.getElem?_eq_none (by omega)]
  rw [← e]
  exact hlit
end Go.Proofs.Ytiecphhenpapoaa
