/- Contracts of toDomino, toDominoS and szDominoS of the laws. -/
import Derived.Test.YtiecphhenpapoaaTriFill
namespace Go.Proofs.Ytiecphhenpapoaa
open Go.RowKit
set_option linter.unusedVariables false

theorem toDomino_any (x y : Int) (d : Bool) (w : World) :
    Calls Try.prog 123 #[triV x y d] w fun e w' => e = .returned (triV x y d) ∧ Below w.heap.size w w' := by
  go_enter Try.func123, Try.ntmps123
  go_wp2
  refine bodyPost_ret (v := triV x y d) (by simp [results, Try.results123, go_sem]) rfl ⟨rfl, ?_⟩
  repeat (first | exact Below.refl _ _ | refine Below.setCell ?_ (by simp <;> omega) _ | refine Below.alloc ?_ (by simp <;> omega) _)
theorem szDominoS_any (v : Value) (ls : List Lk) (left : Int) (B : Nat) (w : World) (h : RdF elDomino w B v ls) (h1 : 0 ≤ left) (h2 : left ≤ 1099511627776) :
    Calls Try.prog 45 #[v, .int .i64 left] w fun e w' => e = .returned (.int .i64 (szZ ls.length left)) ∧ w = w' := by
  obtain ⟨A, c, rfl, g1, g2, g3⟩ := h
  unfold maxLen at g2
  clear g3
  have hz : szZ ls.length left = if left - (ls.length : Int) < 0 then -1 else left - (ls.length : Int) := rfl
  by_cases hlt : left - (ls.length : Int) < 0
  · rw [if_pos hlt] at hz
    rw [hz]; clear hz
    go_enter Try.func45, Try.ntmps45
    go_wp2
    go_ret
    exact ⟨rfl, rfl⟩
  · rw [if_neg hlt] at hz
    rw [hz]; clear hz
    go_enter Try.func45, Try.ntmps45
    go_wp2
    go_ret
    exact ⟨rfl, rfl⟩

def RetOwnDomino (w : World) (ls : List Lk) (e : Ending) (w' : World) : Prop := ∃ v, e = .returned v ∧ OwnF elDomino w' w.heap.size v ls ∧ Below w.heap.size w w'
set_option maxRecDepth 100000 in
set_option maxHeartbeats 2000000 in
theorem toDominoS_any (v : Value) (ls : List Lk) (B : Nat) (w : World) (h : RdF elDomino w B v ls) (hB : B ≤ w.heap.size) (hl : ls.length ≤ 1048576) :
    Calls Try.prog 47 #[v] w (RetOwnDomino w ls) := by
  obtain ⟨A, c, rfl, h1, h2, H3⟩ := RdT.of (E := elDomino) rfl (fun _ => rfl) h
  unfold maxLen at h2
  clear h
  have hmk := mk_tri (P := Try.prog) 29 58 24 Try.underlying29 okDomino.info ls.length (by omega) (by omega)
  have HF0 : Hid (OwnF elDomino (w.alloc (.cells (madeCells #[.int .i64 0, .int .i64 0, .bool false] (ls.length * 3)) 58)) w.heap.size (.slice (some ⟨w.heap.size, 0, none⟩) ls.length ls.length) (triFill ls 0)) := triMade okDomino rfl (fun _ => rfl) w ls (by omega)
  go_enter Try.func47, Try.ntmps47
  go_wp2_with fail
  clear hmk
  go_loopw [4] (fun i wr => ∃ k : Nat, k ≤ ls.length ∧ i = .int .i64 k ∧ Hid (Below w.heap.size w wr) ∧ Hid (OwnF elDomino wr w.heap.size (.slice (some ⟨w.heap.size, 0, none⟩) ls.length ls.length) (triFill ls k))) (fun i _ => ls.length - (intOf i).toNat)
  case atStart => exact ⟨0, Nat.zero_le _, rfl, (Below.refl _ _).alloc (Nat.le_refl _) _, HF0⟩
  case round =>
    obtain ⟨k, hk, rfl, HB, HO⟩ := hrel
    by_cases hlt : k < ls.length
    · have ht : decide ((k : Int) < (ls.length : Int)) = true := by simp only [decide_eq_true_eq]; omega
      obtain ⟨ad, rfl, hbl, hx, hy, hz⟩ := H3.out k hlt
      have hx' := (HB.out.cell (p := ad.add (k * 3)) (by rw [addBlock]; omega)).trans hx
      have hy' := (HB.out.cell (p := ⟨(ad.add (k * 3)).block, (ad.add (k * 3)).off + 1, none⟩) (by show (ad.add (k * 3)).block < w.heap.size; rw [addBlock]; omega)).trans hy
      have hz' := (HB.out.cell (p := ⟨(ad.add (k * 3)).block, (ad.add (k * 3)).off + 2, none⟩) (by show (ad.add (k * 3)).block < w.heap.size; rw [addBlock]; omega)).trans hz
      have hk0 : (0 : Int) ≤ (k : Int) := by omega
      have hk1 : (k : Int) < (ls.length : Int) := by omega
      have hsz := HB.out.size
      clear hx hy hz
      go_wp2_with fail
      refine (toDomino_any _ _ _ _).mono ?_
      rintro e w1 ⟨rfl, hb1⟩
      have HO1 := Lib.hid (HO.out.below hb1)
      have HB1 := Lib.hid (HB.out.trans (hb1.mono hsz))
      have hfl : (triFill ls k).length = ls.length := triFill_length ls k
      have ho := HO1.out
      rw [← hfl] at ho
      obtain ⟨c0, c1, c2, hfr, ht3⟩ := triStore okDomino rfl (fun _ => rfl) (cap := ls.length) (by rw [hfl] at ho ⊢; exact ho) (j := k) (by rw [hfl]; exact hlt)
      obtain ⟨hst, hgr⟩ := ht3 (lx ls k) (ly ls k) (ld ls k)
      rw [triFill_set ls k hlt, triFill_length] at hst
      have HN := Lib.hid hst
      have HBN := Lib.hid (HB1.out.grown hgr HB1.out.size (fun j hj => by obtain rfl := Option.some.inj hj; exact Nat.le_refl _))
      clear hst hgr ht3 ho hb1 hfl hsz
      go_wp2_with fail
      go_roundw
      case rel => exact ⟨k + 1, by omega, by go_num, HBN, HN⟩
      case measure => simp [intOf]; omega
    · have ht : decide ((k : Int) < (ls.length : Int)) = false := by simp only [decide_eq_false_iff_not]; omega
      go_wp2_with fail
      go_ret
      refine ⟨_, rfl, ?_, HB.out⟩
      have ho := HO.out
      rw [triFill_all ls k (by omega)] at ho
      exact ho
end Go.Proofs.Ytiecphhenpapoaa
