/- Contracts of areSpots, SpotsOk of the program and of the reference. -/
import Derived.Test.YtpejphholomenaaSpots
import Derived.Test.YtpejphholomenaaUp
namespace Go.Proofs.Ytpejphholomenaa
open Go.RowKit

def spotsB (m : Int) (ps : List (Int × Int)) : Bool := upFrom (fun k => spotB m (px ps k) (py ps k)) 0 ps.length
def spotsOkB (ps qs : List (Int × Int)) : Bool := inB ps.length 1 3 && decide ((qs.length : Int) = ps.length) && spotsB 8 ps && spotsB 8 qs

set_option maxHeartbeats 1000000 in
theorem areSpots_any (v : Value) (ps : List (Int × Int)) (m : Int) (B : Nat) (w : World) (h : RdP w B v ps) (hB : B ≤ w.heap.size) :
    Calls Try.prog 67 #[v, .int .i64 m] w fun e w' => e = .returned (.bool (spotsB m ps)) ∧ Below w.heap.size w w' := by
  obtain ⟨A, c, rfl, g1, g2, g3⟩ := h
  unfold maxLen at g2
  have G3 := Lib.hid g3; clear g3
  generalize hr : spotsB m ps = r
  have HR : Hid (upFrom (fun k => spotB m (px ps k) (py ps k)) 0 ps.length = r) := hr
  clear hr
  go_enter Try.func67, Try.ntmps67
  go_wp2_with fail
  go_loopw [9] (fun i wr => ∃ k : Nat, k ≤ ps.length ∧ i = .int .i64 k ∧ Hid (upFrom (fun k => spotB m (px ps k) (py ps k)) k ps.length = r) ∧ Below w.heap.size w wr) (fun i _ => ps.length - (intOf i).toNat)
  case atStart => exact ⟨0, Nat.zero_le _, rfl, HR, Below.refl _ _⟩
  case round =>
    obtain ⟨k, hk, rfl, HE, hd⟩ := hrel
    by_cases hlt : k < ps.length
    · have hs := upFrom_step (fun k => spotB m (px ps k) (py ps k)) k ps.length hlt
      obtain ⟨ad, rfl, hb, hx, hy⟩ := G3.out k hlt
      have l1 : (ad.add (k * 2)).block < w.heap.size := by rw [addBlock]; omega
      have hxw := (hd.cell l1).trans hx
      have hyw := (hd.cell (p := ⟨(ad.add (k * 2)).block, (ad.add (k * 2)).off + 1, none⟩) l1).trans hy
      clear hx hy
      have hsz := hd.size
      cases hsp : spotB m (px ps k) (py ps k)
      · have HF : Hid (r = false) := by unfold Hid; rw [← HE.out, hs, hsp]; rfl
        clear hs
        go_wp2_with fail
        refine (isSpot_any _ _ _ _).mono ?_
        rintro e w1 ⟨rfl, hb1⟩
        go_wp2_with fail
        go_ret
        refine ⟨ret_bool HF.out.symm, ?_⟩
        refine Below.trans ?_ (hb1.mono (by (try simp) <;> omega))
        repeat (first | exact hd | refine Below.setCell ?_ (by (try simp) <;> omega) _ | refine Below.alloc ?_ (by (try simp) <;> omega) _)
      · have HN : Hid (upFrom (fun k => spotB m (px ps k) (py ps k)) (k + 1) ps.length = r) := by unfold Hid; rw [← HE.out, hs, hsp]; rfl
        clear hs
        go_wp2_with fail
        refine (isSpot_any _ _ _ _).mono ?_
        rintro e w1 ⟨rfl, hb1⟩
        go_wp2_with fail
        go_roundw
        case rel =>
          refine ⟨k + 1, by omega, by go_num, HN, ?_⟩
          refine Below.trans ?_ (hb1.mono (by (try simp) <;> omega))
          repeat (first | exact hd | refine Below.setCell ?_ (by (try simp) <;> omega) _ | refine Below.alloc ?_ (by (try simp) <;> omega) _)
        case measure => simp [intOf]; omega
    · have HF : Hid (r = true) := by unfold Hid; rw [← HE.out, upFrom_end _ k _ (by omega)]
      go_wp2_with fail
      go_ret
      exact ⟨ret_bool HF.out.symm, hd⟩

set_option maxHeartbeats 1000000 in
theorem SpotsOk_any (u v : Value) (ps qs : List (Int × Int)) (B : Nat) (w : World) (hu : RdP w B u ps) (hv : RdP w B v qs) (hB : B ≤ w.heap.size) :
    Calls Try.prog 21 #[u, v] w fun e w' => e = .returned (.bool (spotsOkB ps qs)) ∧ Below w.heap.size w w' := by
  obtain ⟨A, c, eu, g1, g2, g3⟩ := id hu
  obtain ⟨A', c', ev, g1', g2', g3'⟩ := id hv
  unfold maxLen at g2 g2'
  have HU := Lib.hid hu; have HV := Lib.hid hv
  clear hu hv g3 g3'
  subst eu; subst ev
  cases i1 : inB ps.length 1 3
  · rw [show spotsOkB ps qs = false from by rw [spotsOkB, i1]; rfl]
    go_enter Try.func21, Try.ntmps21
    go_wp2_with fail
    refine (within_any _ _ _ _).mono ?_
    rintro e w1 ⟨rfl, rfl⟩
    go_wp2_with fail
    go_ret
    exact ⟨rfl, Below.refl _ _⟩
  · by_cases i2 : (qs.length : Int) = ps.length
    · have hne : ((qs.length : Int) == (ps.length : Int)) = true := by rw [beq_iff_eq]; exact i2
      have e0 : spotsOkB ps qs = (spotsB 8 ps && spotsB 8 qs) := by rw [spotsOkB, i1, decide_eq_true i2]; rfl
      clear i2
      cases i3 : spotsB 8 ps
      · rw [e0, i3, Bool.false_and]; clear e0
        go_enter Try.func21, Try.ntmps21
        go_wp2_with fail
        refine (within_any _ _ _ _).mono ?_
        rintro e w1 ⟨rfl, rfl⟩
        go_wp2_with fail
        refine (areSpots_any _ ps 8 B _ HU.out hB).mono ?_
        rintro e w1 ⟨rfl, hb1⟩
        go_wp2_with fail
        go_ret
        exact ⟨rfl, hb1⟩
      · rw [e0, i3, Bool.true_and]; clear e0
        go_enter Try.func21, Try.ntmps21
        go_wp2_with fail
        refine (within_any _ _ _ _).mono ?_
        rintro e w1 ⟨rfl, rfl⟩
        go_wp2_with fail
        refine (areSpots_any _ ps 8 B _ HU.out hB).mono ?_
        rintro e w1 ⟨rfl, hb1⟩
        go_wp2_with fail
        refine (areSpots_any _ qs 8 B _ (HV.out.below (hb1.mono hB)) (Nat.le_trans hB hb1.size)).mono ?_
        rintro e w2 ⟨rfl, hb2⟩
        go_wp2_with fail
        go_ret
        exact ⟨rfl, hb1.trans (hb2.mono hb1.size)⟩
    · rw [show spotsOkB ps qs = false from by rw [spotsOkB, i1, decide_eq_false i2]; rfl]
      have hne : ((qs.length : Int) == (ps.length : Int)) = false := by rw [beq_eq_false_iff_ne]; exact i2
      clear i2
      go_enter Try.func21, Try.ntmps21
      go_wp2_with fail
      refine (within_any _ _ _ _).mono ?_
      rintro e w1 ⟨rfl, rfl⟩
      go_wp2_with fail
      go_ret
      exact ⟨rfl, Below.refl _ _⟩

/-- The reference looks at both lists in one loop. -/
def bothB (ps qs : List (Int × Int)) (k : Nat) : Bool := spotB 8 (px ps k) (py ps k) && spotB 8 (px qs k) (py qs k)
theorem spotsOk_both (ps qs : List (Int × Int)) (h : (qs.length : Int) = ps.length) : spotsOkB ps qs = (upFrom (bothB ps qs) 0 ps.length && inB ps.length 1 3) := by
  have hl : qs.length = ps.length := by omega
  rw [Bool.eq_iff_iff]
  simp only [spotsOkB, spotsB, Bool.and_eq_true, upFrom_iff, bothB, hl, decide_true, and_true, Nat.zero_le, true_implies]
  constructor
  · rintro ⟨⟨h1, h2⟩, h3⟩; exact ⟨fun j hj => ⟨h2 j hj, h3 j hj⟩, h1⟩
  · rintro ⟨h1, h2⟩; exact ⟨⟨h2, fun j hj => (h1 j hj).1⟩, fun j hj => (h1 j hj).2⟩

end Go.Proofs.Ytpejphholomenaa
