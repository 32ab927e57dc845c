/- Contracts of markIntS (it writes k, k + 1, .. into a row of the caller's own) and heldIntS (they stand there still). -/
import Derived.Test.YtpejphholomenaaOwnS
import Derived.Test.YtpejphholomenaaUp
namespace Go.Proofs.Ytpejphholomenaa
open Go.RowKit

/-- k, k + 1, .. : n numbers. -/
def iota (k : Int) (n : Nat) : List Int := (List.range n).map fun (i : Nat) => k + (i : Int)
theorem iota_length (k : Int) (n : Nat) : (iota k n).length = n := by simp [iota]
theorem iota_el (k : Int) (n j : Nat) (h : j < n) : el (iota k n) j = k + j := by simp [el, iota, h]
/-- j of them have been written. -/
def markTo (zs : List Int) (k : Int) (j : Nat) : List Int := (List.range zs.length).map fun (i : Nat) => if i < j then k + (i : Int) else el zs i
theorem markTo_length (zs : List Int) (k : Int) (j : Nat) : (markTo zs k j).length = zs.length := by simp [markTo]
theorem markTo_zero (zs : List Int) (k : Int) : markTo zs k 0 = zs := by
  apply List.ext_getElem
  · exact markTo_length _ _ _
  · intro i h1 h2; simp [markTo, el, h2]
theorem markTo_all (zs : List Int) (k : Int) : markTo zs k zs.length = iota k zs.length := by
  unfold markTo iota
  apply List.map_congr_left
  intro i hi
  rw [if_pos (by simpa using hi)]
theorem markTo_set (zs : List Int) (k : Int) (j : Nat) (_h : j < zs.length) : (markTo zs k j).set j (k + j) = markTo zs k (j + 1) := by
  apply List.ext_getElem
  · simp [markTo]
  · intro i h1 h2
    have hi : i < zs.length := by simpa [markTo] using h2
    rw [List.getElem_set]
    by_cases e : j = i
    · subst e; simp [markTo]
    · by_cases e2 : i < j
      · simp [markTo, e, e2, show i < j + 1 by omega]
      · simp [markTo, e, e2, show ¬ i < j + 1 by omega]

/-- The row is marked; nothing else that was there has turned. -/
def MarkPost (w : World) (lo : Nat) (v : Value) (n : Nat) (k : Int) (e : Ending) (w' : World) : Prop :=
  e = .returned (.int .i64 (k + n)) ∧ OwnI w' lo v (iota k n) ∧ w.grownBy w' v.ownBlock

set_option maxHeartbeats 1000000 in
theorem markIntS_any (v : Value) (zs : List Int) (lo : Nat) (k : Int) (w : World) (h : OwnI w lo v zs) (hl : zs.length ≤ 1099511627776) (h1 : 0 ≤ k) (h2 : k ≤ 1099511627776) :
    Calls Try.prog 31 #[v, .int .i64 k] w (MarkPost w lo v zs.length k) := by
  rcases Nat.eq_zero_or_pos zs.length with h0 | hpos
  · obtain ⟨A, c, hv, _, _, _⟩ := h.rd
    have hz : zs = [] := List.eq_nil_of_length_eq_zero h0
    subst hz
    have HH := Lib.hid h
    clear h
    rw [hv] at HH ⊢
    clear hv
    go_enter Try.func31, Try.ntmps31
    go_wp2_with fail
    go_loopw [1, 5] (fun a i wr => a = .int .i64 k ∧ i = .int .i64 0 ∧ w = wr) (fun _ _ _ => 0)
    case atStart => exact ⟨rfl, rfl, rfl⟩
    case round =>
      obtain ⟨rfl, rfl, rfl⟩ := hrel
      go_wp2_with fail
      go_ret
      exact ⟨ret_int (by simp), (show OwnI w lo (.slice A 0 c) [] from HH.out), World.grownBy.refl w _⟩
  · obtain ⟨g, cap, hv, hlo, hgl⟩ := World.ownsRow.form h hpos
    have HH := Lib.hid h
    clear h
    rw [hv] at HH ⊢
    clear hv
    go_enter Try.func31, Try.ntmps31
    go_wp2_with fail
    go_loopw [1, 5] (fun a i wr => ∃ j : Nat, j ≤ zs.length ∧ a = .int .i64 (k + (j : Int)) ∧ i = .int .i64 j ∧ Hid (OwnI wr lo (.slice (some ⟨g, 0, none⟩) zs.length cap) (markTo zs k j)) ∧ w.grownBy wr (some g)) (fun _ i _ => zs.length - (intOf i).toNat)
    case atStart => exact ⟨0, Nat.zero_le _, by simp, rfl, by (unfold Hid; rw [markTo_zero]; exact HH.out), World.grownBy.refl w _⟩
    case round =>
      obtain ⟨j, hj, rfl, rfl, HO, hgr⟩ := hrel
      by_cases hlt : j < zs.length
      · have ho := HO.out
        unfold OwnI at ho
        rw [markTo_length] at ho
        have hcell : wr.cell? ⟨g, j, none⟩ = some (.int .i64 (el (markTo zs k j) j)) := by
          rw [World.ownsRow.cellAt ho j (by omega), List.getElem?_map]
          have hj2 : j < (markTo zs k j).length := by rw [markTo_length]; exact hlt
          rw [List.getElem?_eq_getElem hj2, el_get _ _ hj2]; rfl
        have hfr := World.ownsRow.frozenAt ho j
        have hst := World.ownsRow.stored ho j (.int .i64 (k + (j : Int)))
        have HN : Hid (OwnI (wr.setCell ⟨g, j, none⟩ (.int .i64 (k + (j : Int)))) lo (.slice (some ⟨g, 0, none⟩) zs.length cap) (markTo zs k (j + 1))) := by
          unfold Hid OwnI
          rw [markTo_length, ← markTo_set zs k j hlt, List.map_set]
          exact hst.1
        have HG := Lib.hid (hgr.trans hst.2)
        clear ho hst
        have hk0 : (0 : Int) ≤ (j : Int) := by omega
        have hk1 : (j : Int) < (zs.length : Int) := by omega
        go_wp2_with fail
        go_roundw
        case rel => exact ⟨j + 1, by omega, by simp; omega, by go_num, HN, HG.out⟩
        case measure => simp [intOf]; omega
      · have HJ : Hid (j = zs.length) := by unfold Hid; omega
        go_wp2_with fail
        go_ret
        refine ⟨ret_int (by rw [HJ.out]), ?_, hgr⟩
        have ho := HO.out
        rw [HJ.out, markTo_all] at ho
        exact ho

set_option maxHeartbeats 1000000 in
theorem heldIntS_any (v : Value) (n : Nat) (k : Int) (B : Nat) (w : World) (h : RdI w B v (iota k n)) (hl : n ≤ 1099511627776) (h1 : 0 ≤ k) (h2 : k ≤ 1099511627776) :
    Calls Try.prog 32 #[v, .int .i64 k] w fun e w' => e = .returned (.int .i64 (k + (n : Int))) ∧ w = w' := by
  obtain ⟨A, c, rfl, g1, g2, g3⟩ := h
  rw [iota_length] at *
  unfold maxLen at g2
  have G3 := Lib.hid g3; clear g3
  go_enter Try.func32, Try.ntmps32
  go_wp2_with fail
  go_loop [1, 5] (fun a i => ∃ j : Nat, j ≤ n ∧ a = .int .i64 (k + (j : Int)) ∧ i = .int .i64 j) (fun _ i => n - (intOf i).toNat)
  case atStart => exact ⟨0, Nat.zero_le _, by simp, rfl⟩
  case round =>
    obtain ⟨j, hj, rfl, rfl⟩ := hrel
    by_cases hlt : j < n
    · obtain ⟨ad, rfl, hb, hc⟩ := Rd.int G3.out (k := j) (by rw [iota_length]; exact hlt)
      have he : (iota k n)[j]'(by rw [iota_length]; exact hlt) = k + (j : Int) := by simp [iota]
      rw [he] at hc
      have hne : (k + (j : Int) != k + (j : Int)) = false := by simp
      clear he
      go_wp2_with fail
      go_round
      case rel => exact ⟨j + 1, by omega, by simp; omega, by go_num⟩
      case measure => simp [intOf]; omega
    · have HJ : Hid (j = n) := by unfold Hid; omega
      go_wp2_with fail
      go_ret
      exact ⟨ret_int (by rw [HJ.out]), rfl⟩
end Go.Proofs.Ytpejphholomenaa
