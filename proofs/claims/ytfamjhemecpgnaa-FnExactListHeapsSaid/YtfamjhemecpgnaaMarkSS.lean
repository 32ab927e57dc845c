/- Contracts of markIntSS and heldIntSS. -/
import Derived.Test.YtfamjhemecpgnaaOwnM
import Derived.Test.YtfamjhemecpgnaaMarkS
namespace Go.Proofs.Ytfamjhemecpgnaa
open Go.RowKit

/-- How many numbers stand ahead of the i-th row. -/
def flatTo (zss : List (List Int)) : Nat → Nat | 0 => 0 | i + 1 => flatTo zss i + (rw' zss i).length
theorem flatTo_mono (zss : List (List Int)) (i : Nat) : ∀ n, i ≤ n → flatTo zss i ≤ flatTo zss n := by
  intro n
  induction n with
  | zero => intro h; obtain rfl : i = 0 := by omega
            exact Nat.le_refl _
  | succ n ih => intro h
                 by_cases e : i = n + 1
                 · subst e; exact Nat.le_refl _
                 · exact Nat.le_trans (ih (by omega)) (Nat.le_add_right _ _)
/-- The first j rows marked. -/
def mixSS (k : Int) (zss : List (List Int)) (j : Nat) : List (List Int) := (List.range zss.length).map fun i => if i < j then iota (k + (flatTo zss i : Int)) (rw' zss i).length else rw' zss i
def iotaSS (k : Int) (zss : List (List Int)) : List (List Int) := (List.range zss.length).map fun i => iota (k + (flatTo zss i : Int)) (rw' zss i).length
theorem mixSS_length (k : Int) (zss : List (List Int)) (j : Nat) : (mixSS k zss j).length = zss.length := by simp [mixSS]
theorem iotaSS_length (k : Int) (zss : List (List Int)) : (iotaSS k zss).length = zss.length := by simp [iotaSS]
theorem mixSS_row (k : Int) (zss : List (List Int)) (j : Nat) (h : j < zss.length) : rw' (mixSS k zss j) j = rw' zss j := by simp [rw', mixSS, h]
theorem iotaSS_row (k : Int) (zss : List (List Int)) (j : Nat) (h : j < zss.length) : rw' (iotaSS k zss) j = iota (k + (flatTo zss j : Int)) (rw' zss j).length := by simp [rw', iotaSS, h]
theorem mixSS_zero (k : Int) (zss : List (List Int)) : mixSS k zss 0 = zss := by
  apply List.ext_getElem
  · simp [mixSS]
  · intro i h1 h2; simp [mixSS, rw', h2]
theorem mixSS_all (k : Int) (zss : List (List Int)) : mixSS k zss zss.length = iotaSS k zss := by
  unfold mixSS iotaSS
  apply List.map_congr_left
  intro i hi
  rw [if_pos (by simpa using hi)]
theorem mixSS_set (k : Int) (zss : List (List Int)) (j : Nat) (_h : j < zss.length) : (mixSS k zss j).set j (iota (k + (flatTo zss j : Int)) (rw' zss j).length) = mixSS k zss (j + 1) := by
  apply List.ext_getElem
  · simp [mixSS]
  · intro i h1 h2
    rw [List.getElem_set]
    by_cases e : j = i
    · subst e; simp [mixSS]
    · by_cases e2 : i < j
      · simp [mixSS, e, e2, show i < j + 1 by omega]
      · simp [mixSS, e, e2, show ¬ i < j + 1 by omega]

def MarkSSPostA (w : World) (lo hi : Nat) (v : Value) (zss : List (List Int)) (k : Int) (e : Ending) (w' : World) : Prop :=
  e = .returned (.int .i64 (k + (flatTo zss zss.length : Int))) ∧ OwnM w' lo hi v (iotaSS k zss) ∧ Aft lo hi w w'
def MarkSSPost (w : World) (lo hi : Nat) (v : Value) (zss : List (List Int)) (k : Int) (e : Ending) (w' : World) : Prop :=
  e = .returned (.int .i64 (k + (flatTo zss zss.length : Int))) ∧ OwnM w' lo hi v (iotaSS k zss) ∧ Below lo w w'

set_option maxHeartbeats 1000000 in
theorem markIntSS_aft (v : Value) (zss : List (List Int)) (lo hi : Nat) (k : Int) (w : World) (h : OwnM w lo hi v zss) (hl : zss.length ≤ 1048576) (hf : flatTo zss zss.length ≤ 1048576) (h1 : 0 ≤ k) (h2 : k ≤ 1048576) :
    Calls Try.prog 116 #[v, .int .i64 k] w (MarkSSPostA w lo hi v zss k) := by
  rcases Nat.eq_zero_or_pos zss.length with h0 | hpos
  · obtain ⟨A, c, hv, _, _, _⟩ := h.rd.open_
    have hz : zss = [] := List.eq_nil_of_length_eq_zero h0
    subst hz
    have HH := Lib.hid h
    clear h
    rw [hv] at HH ⊢
    clear hv
    go_enter Try.func116, Try.ntmps116
    go_wp2_with fail
    go_loopw [1, 5] (fun a i wr => a = .int .i64 k ∧ i = .int .i64 0 ∧ w = wr) (fun _ _ _ => 0)
    case atStart => exact ⟨rfl, rfl, rfl⟩
    case round =>
      obtain ⟨rfl, rfl, rfl⟩ := hrel
      go_wp2_with fail
      go_ret
      exact ⟨ret_int (by simp [flatTo]), HH.out, Aft.refl _ _ _⟩
  · obtain ⟨g, cap, hv, hlg, hgl⟩ := World.ownsRow.form h.choose_spec.1 hpos
    have HH := Lib.hid h
    clear h
    rw [hv] at HH ⊢
    clear hv
    go_enter Try.func116, Try.ntmps116
    go_wp2_with fail
    go_loopw [1, 5] (fun a i wr => ∃ (j : Nat) (q : Int), j ≤ zss.length ∧ a = .int .i64 q ∧ Hid (q = k + (flatTo zss j : Int)) ∧ i = .int .i64 j ∧ Hid (OwnM wr lo hi (.slice (some ⟨g, 0, none⟩) zss.length cap) (mixSS k zss j)) ∧ Aft lo hi w wr) (fun _ i _ => zss.length - (intOf i).toNat)
    case atStart => exact ⟨0, k, Nat.zero_le _, rfl, (by unfold Hid; simp [flatTo]), rfl, by (unfold Hid; rw [mixSS_zero]; exact HH.out), Aft.refl _ _ _⟩
    case round =>
      obtain ⟨j, q, hj, rfl, HQ, rfl, HO, hb⟩ := hrel
      by_cases hlt : j < zss.length
      · obtain ⟨u, hcell, hown, hbelow, hset⟩ := HO.out.row (j := j) (by rw [mixSS_length]; exact hlt)
        rw [mixSS_row k zss j hlt] at hown
        obtain ⟨A', c', hu, _⟩ := hown.rd
        have hfm := flatTo_mono zss (j + 1) zss.length (by omega)
        have hfs : flatTo zss (j + 1) = flatTo zss j + (rw' zss j).length := rfl
        have hq := HQ.out
        have hwl := hb.size
        have HW := Lib.hid hown
        have HS := Lib.hid hset
        have HBL := Lib.hid hbelow
        have hk0 : (0 : Int) ≤ (j : Int) := by omega
        have hk1 : (j : Int) < (zss.length : Int) := by omega
        have hq0 : 0 ≤ q := by omega
        have hq1 : q ≤ 1099511627776 := by omega
        have hlr : (rw' zss j).length ≤ 1099511627776 := by omega
        have HQ2 : Hid (q + ((rw' zss j).length : Int) = k + (flatTo zss (j + 1) : Int)) := by unfold Hid; omega
        have HE : Hid (iota (k + (flatTo zss j : Int)) (rw' zss j).length = iota q (rw' zss j).length) := by unfold Hid; rw [hq]
        rw [hu] at hcell HW HS HBL
        clear hown hset hbelow hu hfm hfs hq
        go_wp2_with fail
        refine (markIntS_any _ (rw' zss j) lo q _ HW.out hlr hq0 hq1).mono ?_
        rintro e w1 ⟨rfl, hm, hg⟩
        have HN : Hid (OwnM w1 lo hi (.slice (some ⟨g, 0, none⟩) zss.length cap) (mixSS k zss (j + 1))) := by
          unfold Hid; rw [← mixSS_set k zss j hlt, HE.out]; exact HS.out w1 _ hm hg
        have HB := Lib.hid (hb.trans (Aft.ofGrown hg fun x hx => ⟨(HW.out.lt x hx).1, HBL.out x hx⟩))
        clear hm hg
        go_wp2_with fail
        go_roundw
        case rel => exact ⟨j + 1, _, by omega, rfl, HQ2, by go_num, HN, HB.out⟩
        case measure => simp [intOf]; omega
      · have HJ : Hid (j = zss.length) := by unfold Hid; omega
        go_wp2_with fail
        go_ret
        refine ⟨ret_int (by rw [HQ.out, HJ.out]), ?_, hb⟩
        have ho := HO.out
        rw [HJ.out, mixSS_all] at ho
        exact ho

theorem markIntSS_any (v : Value) (zss : List (List Int)) (lo hi : Nat) (k : Int) (w : World) (h : OwnM w lo hi v zss) (hlo : lo ≤ w.heap.size) (hl : zss.length ≤ 1048576) (hf : flatTo zss zss.length ≤ 1048576) (h1 : 0 ≤ k) (h2 : k ≤ 1048576) :
    Calls Try.prog 116 #[v, .int .i64 k] w (MarkSSPost w lo hi v zss k) :=
  (markIntSS_aft v zss lo hi k w h hl hf h1 h2).mono fun _ _ ⟨a, b, c⟩ => ⟨a, b, c.below hlo⟩

set_option maxHeartbeats 1000000 in
theorem heldIntSS_any (v : Value) (zss : List (List Int)) (k : Int) (B : Nat) (w : World) (h : RdII w B v (iotaSS k zss)) (hl : zss.length ≤ 1048576) (hf : flatTo zss zss.length ≤ 1048576) (h1 : 0 ≤ k) (h2 : k ≤ 1048576) :
    Calls Try.prog 117 #[v, .int .i64 k] w fun e w' => e = .returned (.int .i64 (k + (flatTo zss zss.length : Int))) ∧ w = w' := by
  obtain ⟨A, c, rfl, g1, g2, g3⟩ := h.open_
  clear h
  rw [iotaSS_length] at *
  unfold maxLen at g2
  have G3 := Lib.hid g3; clear g3
  go_enter Try.func117, Try.ntmps117
  go_wp2_with fail
  go_loop [1, 5] (fun a i => ∃ (j : Nat) (q : Int), j ≤ zss.length ∧ a = .int .i64 q ∧ Hid (q = k + (flatTo zss j : Int)) ∧ i = .int .i64 j) (fun _ i => zss.length - (intOf i).toNat)
  case atStart => exact ⟨0, k, Nat.zero_le _, rfl, (by unfold Hid; simp [flatTo]), rfl⟩
  case round =>
    obtain ⟨j, q, hj, rfl, HQ, rfl⟩ := hrel
    by_cases hlt : j < zss.length
    · obtain ⟨ad, u, rfl, hbl, hc, hr⟩ := G3.out j (by rw [iotaSS_length]; exact hlt)
      rw [iotaSS_row k zss j hlt] at hr
      have hfm := flatTo_mono zss (j + 1) zss.length (by omega)
      have hfs : flatTo zss (j + 1) = flatTo zss j + (rw' zss j).length := rfl
      have hq := HQ.out
      rw [← hq] at hr
      have HW := Lib.hid hr
      obtain ⟨A', c', rfl, _⟩ := hr
      have hk0 : (0 : Int) ≤ (j : Int) := by omega
      have hk1 : (j : Int) < (zss.length : Int) := by omega
      have hq0 : 0 ≤ q := by omega
      have hq1 : q ≤ 1099511627776 := by omega
      have hlr : (rw' zss j).length ≤ 1099511627776 := by omega
      have hpos : ¬ q + ((rw' zss j).length : Int) < 0 := by omega
      have HQ2 : Hid (q + ((rw' zss j).length : Int) = k + (flatTo zss (j + 1) : Int)) := by unfold Hid; omega
      clear hfm hfs hq
      rw [iota_length] at *
      go_wp2_with fail
      refine (heldIntS_any _ (rw' zss j).length q _ _ HW.out hlr hq0 hq1).mono ?_
      rintro e w1 ⟨rfl, rfl⟩
      go_wp2_with fail
      go_round
      case rel => exact ⟨j + 1, _, by omega, rfl, HQ2, by go_num⟩
      case measure => simp [intOf]; omega
    · have HJ : Hid (q = k + (flatTo zss zss.length : Int)) := by unfold Hid; rw [HQ.out, show j = zss.length by omega]
      go_wp2_with fail
      go_ret
      exact ⟨ret_int HJ.out, rfl⟩
end Go.Proofs.Ytfamjhemecpgnaa
