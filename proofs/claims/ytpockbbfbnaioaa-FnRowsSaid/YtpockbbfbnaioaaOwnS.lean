/- Contracts of toIntS (a copy in a new block), markIntS (it writes 1, 2, .. into a row of the caller's own) and heldIntS (it looks whether they stand there still). -/
import Derived.Test.YtpockbbfbnaioaaInts
import Derived.Deep.OwnRows
import Derived.Deep.AppendLies
namespace Go.Proofs.Ytpockbbfbnaioaa
open Go.RowKit

theorem infoInt : (Try.prog.info? 3).map (fun i => (i.zero, i.size, i.bytes)) = some (some (.int .i64 0), 1, 8) := by kernel_rfl

/-- v owns a row of integers in a block from lo on. -/
def OwnI (w : World) (lo : Nat) (v : Value) (zs : List Int) : Prop := w.ownsRow lo 3 1 v zs.length (zs.map (Value.int .i64))
theorem OwnI.rd {w : World} {lo : Nat} {v : Value} {zs : List Int} (h : OwnI w lo v zs) : RdI w w.heap.size v zs := by
  rcases h.2 with ⟨rfl, h0⟩ | ⟨g, cap, cur, rfl, hb, hh, hn, hm, hs, ht⟩
  · have : zs = [] := List.eq_nil_of_length_eq_zero h0
    subst this
    exact ⟨none, 0, rfl, Nat.le_refl _, Nat.zero_le _, Rd.nil⟩
  · refine ⟨some ⟨g, 0, none⟩, cap, rfl, hn, hm, fun _ => ⟨_, rfl, (World.ownsRow.lt h g rfl).2, World.ownsRow.cells h rfl⟩⟩
theorem OwnI.lt {w : World} {lo : Nat} {v : Value} {zs : List Int} (h : OwnI w lo v zs) : ∀ k, v.ownBlock = some k → lo ≤ k ∧ k < w.heap.size := World.ownsRow.lt h
theorem OwnI.below {w w' : World} {lo : Nat} {v : Value} {zs : List Int} (h : OwnI w lo v zs) (hb : Below w.heap.size w w') : OwnI w' lo v zs := by
  refine World.ownsRow.kept h (row := none) ⟨hb.os, hb.tape, hb.output, hb.size, fun k hk _ => hb.block k hk⟩ ?_
  cases v.ownBlock
  · exact .inl rfl
  · exact .inr (by simp)
theorem OwnI.of_row {w : World} {lo g : Nat} {zs : List Int} (hg : lo ≤ g) (hl : zs.length ≤ 9223372036854775807) (h : w.rowIs g 3 zs.length (fun j => .int .i64 (zs.getD j 0))) : OwnI w lo (.slice (some ⟨g, 0, none⟩) zs.length zs.length) zs := by
  obtain ⟨c, hb, hs, hc⟩ := h
  refine ⟨by simp, .inr ⟨g, zs.length, c, rfl, hg, hb, Nat.le_refl _, by unfold maxLen; omega, by omega, ?_⟩⟩
  rw [List.take_of_length_le (by simp; omega)]
  apply List.ext_getElem?
  intro j
  by_cases hj : j < zs.length
  · rw [Array.getElem?_toList, hc j hj]; simp [hj]
  · rw [List.getElem?_eq_none (by simp; omega), List.getElem?_eq_none (by simp; omega)]

/-- A new row of integers comes back, nothing else has turned. -/
def RetOwnI (w : World) (zs : List Int) (e : Ending) (w' : World) : Prop := ∃ v, e = .returned v ∧ OwnI w' w.heap.size v zs ∧ Below w.heap.size w w'

set_option maxHeartbeats 1000000 in
theorem toIntS_any (v : Value) (zs : List Int) (B : Nat) (w : World) (h : RdI w B v zs) (hB : B ≤ w.heap.size) (hl : zs.length ≤ 1099511627776) :
    Calls Try.prog 72 #[v] w (RetOwnI w zs) := by
  obtain ⟨A, c, rfl, h1, h2, h3⟩ := h
  have hmk := run_make_row' (P := Try.prog) 64 3 (.int .i64 0) 8 Try.underlying64 infoInt rfl .i64 .i64 zs.length (by omega) (by omega)
  go_enter Try.func72, Try.ntmps72
  go_wp2
  clear hmk
  go_loopw [4] (fun i wr => ∃ k : Nat, k ≤ zs.length ∧ i = .int .i64 k ∧ Below w.heap.size w wr ∧ wr.heap.size = w.heap.size + 1 ∧ wr.rowIs w.heap.size 3 zs.length (fun j => .int .i64 (if j < k then zs.getD j 0 else 0))) (fun i _ => zs.length - (intOf i).toNat)
  case atStart =>
    refine ⟨0, Nat.zero_le _, rfl, (Below.refl _ _).alloc (Nat.le_refl _) _, by simp, (World.rowIs_made w _ _ _).congr fun i hi => by simp⟩
  case round =>
    obtain ⟨k, hk, rfl, hb, hsz, hrow⟩ := hrel
    by_cases hlt : k < zs.length
    · obtain ⟨ad, rfl, hbl, hc⟩ := h3.int hlt
      have hc' := (hb.cell (p := ad.add k) (by rw [addBlock]; omega)).trans hc
      have hcell := hrow.cell hlt
      have hfr := hrow.frozen k
      have hst := hrow.set k (.int .i64 zs[k])
      have hbs := hb.setCell (p := ⟨w.heap.size, k, none⟩) (Nat.le_refl _) (.int .i64 zs[k])
      have HST := Lib.hid hst; clear hst
      have HBS := Lib.hid hbs; clear hbs
      have HSZ := Lib.hid hsz; clear hsz
      clear hc hrow hb h3
      go_wp2
      go_roundw
      case rel => 
        refine ⟨k + 1, by omega, by go_num, HBS.out, by simp [HSZ.out], HST.out.congr fun j hj => ?_⟩
        by_cases e : j = k
        · subst e; simp [hlt]
        · rw [if_neg e]
          by_cases e2 : j < k
          · rw [if_pos e2, if_pos (by omega)]
          · rw [if_neg e2, if_neg (by omega)]
      case measure => simp [intOf]; omega
    · go_wp2
      go_ret
      refine ⟨_, rfl, OwnI.of_row (Nat.le_refl _) (by omega) (hrow.congr fun j hj => by rw [if_pos (by omega)]), hb⟩
end Go.Proofs.Ytpockbbfbnaioaa
