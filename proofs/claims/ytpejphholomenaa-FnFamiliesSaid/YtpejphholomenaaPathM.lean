/- Contracts of PathMatrix of the program and of the reference. -/
import Derived.Test.YtpejphholomenaaSpotsOk
import Derived.Test.YtpejphholomenaaPush
import Derived.Test.YtpejphholomenaaRect
import Derived.StillTailTactics
import Derived.Deep.DeepCutAuto
import Derived.Deep.Cut
import Derived.Deep.RegionHeld3
namespace Go.Proofs.Ytpejphholomenaa
open Go.RowKit

/-- Two points, each in two cells. -/
abbrev C4 (w : World) (p q : Addr) (ax ay bx bY : Int) : Prop :=
  w.cell? p = some (.int .i64 ax) ∧ w.cell? ⟨p.block, p.off + 1, none⟩ = some (.int .i64 ay) ∧ w.cell? q = some (.int .i64 bx) ∧ w.cell? ⟨q.block, q.off + 1, none⟩ = some (.int .i64 bY)
theorem C4.below {w w1 : World} {p q : Addr} {ax ay bx bY : Int} {B : Nat} (hb : Below B w w1) (hp : p.block < B) (hq : q.block < B) (h : C4 w p q ax ay bx bY) : C4 w1 p q ax ay bx bY :=
  ⟨(hb.cell hp).trans h.1, (hb.cell (p := ⟨p.block, p.off + 1, none⟩) hp).trans h.2.1, (hb.cell hq).trans h.2.2.1, (hb.cell (p := ⟨q.block, q.off + 1, none⟩) hq).trans h.2.2.2⟩

def pmRow (ax ay : Int) (qs : List (Int × Int)) (n : Nat) : List Int := (List.range n).map fun k => pathsZ ax ay (px qs k) (py qs k)
def pmAll (ps qs : List (Int × Int)) (n : Nat) : List (List Int) := (List.range n).map fun i => pmRow (px ps i) (py ps i) qs qs.length
def pmZ (ps qs : List (Int × Int)) : List (List Int) := if spotsOkB ps qs then pmAll ps qs ps.length else []
theorem pmAll_succ (ps qs : List (Int × Int)) (n : Nat) : pmAll ps qs (n + 1) = pmAll ps qs n ++ [pmRow (px ps n) (py ps n) qs qs.length] := by simp [pmAll, List.range_succ]
theorem pmRow_succ (ax ay : Int) (qs : List (Int × Int)) (n : Nat) : pmRow ax ay qs (n + 1) = pmRow ax ay qs n ++ [pathsZ ax ay (px qs n) (py qs n)] := by simp [pmRow, List.range_succ]
theorem spotsOk_len {ps qs : List (Int × Int)} (h : spotsOkB ps qs = true) : 1 ≤ ps.length ∧ ps.length ≤ 3 ∧ qs.length = ps.length := by
  unfold spotsOkB at h
  simp only [Bool.and_eq_true, inB_iff, decide_eq_true_eq] at h
  omega
theorem pmZ_sq (ps qs : List (Int × Int)) : (pmZ ps qs).length ≤ 3 ∧ ∀ i, i < (pmZ ps qs).length → (rw' (pmZ ps qs) i).length = (pmZ ps qs).length := by
  unfold pmZ
  split
  · rename_i h
    have := spotsOk_len h
    refine ⟨by simp [pmAll]; omega, fun i hi => ?_⟩
    have hi' : i < ps.length := by simpa [pmAll] using hi
    simp [pmAll, rw', hi', pmRow]; omega
  · exact ⟨by simp, fun i hi => by simp at hi⟩

set_option maxRecDepth 100000 in
set_option maxHeartbeats 8000000 in
theorem PathMatrix_yes (u v : Value) (ps qs : List (Int × Int)) (B : Nat) (w : World) (hu : RdP w B u ps) (hv : RdP w B v qs) (hB : B ≤ w.heap.size) (ho : spotsOkB ps qs = true) :
    Calls Try.prog 18 #[u, v] w (RetM w (pmAll ps qs ps.length)) := by
  obtain ⟨l1, l2, l3⟩ := spotsOk_len ho
  have HL3 := Lib.hid l3; clear l3
  have hq3 : qs.length ≤ 3 := by have := HL3.out; omega
  have HU := Lib.hid hu
  have HV := Lib.hid hv
  obtain ⟨A, c, rfl, g1, g2, g3⟩ := hu
  obtain ⟨A', c', rfl, g1', g2', g3'⟩ := hv
  unfold maxLen at g2 g2'
  have G3 := Lib.hid g3; clear g3
  have G3' := Lib.hid g3'; clear g3'
  go_enter Try.func18, Try.ntmps18
  go_wp2_with fail
  refine (SpotsOk_any _ _ ps qs _ _ HU.out HV.out hB).mono ?_
  rintro e w1 ⟨rfl, hb1⟩
  rw [ho]
  have hs1 := hb1.size
  have HM0 := Lib.hid (MRel.after hb1 (MRel.start w1))
  go_wp2_with fail
  go_loopw [5, 18] (fun o s wr => ∃ (i hi : Nat) (t : Value) (Z : List (List Int)), i ≤ ps.length ∧ s = .int .i64 i ∧ t = o ∧ Hid (MRel w wr hi t Z) ∧ Hid (Z = pmAll ps qs i) ∧ Z.length ≤ i) (fun _ s _ => ps.length - (intOf s).toNat)
  case atStart => exact ⟨0, _, _, [], Nat.zero_le _, rfl, rfl, HM0, rfl, Nat.le_refl _⟩
  case round =>
    obtain ⟨i, hi, t, Z, hin, rfl, rfl, HM, HZ, hzl⟩ := hrel
    by_cases hlt : i < ps.length
    · have ht : decide ((i : Int) < (ps.length : Int)) = true := by simp only [decide_eq_true_eq]; omega
      obtain ⟨ad, rfl, hbl, hx, hy⟩ := G3.out i hlt
      have hbz := HM.out.2.1
      have hx2 := (hbz.cell (p := ad.add (i * 2)) (by rw [addBlock]; omega)).trans hx
      have hy2 := (hbz.cell (p := ⟨(ad.add (i * 2)).block, (ad.add (i * 2)).off + 1, none⟩) (by show (ad.add (i * 2)).block < _; rw [addBlock]; omega)).trans hy
      have HZS := Lib.hid (pmAll_succ ps qs i)
      generalize px ps i = ax at *
      generalize py ps i = ay at *
      clear hx hy hbz
      go_upto_region 7 with (fail)
      obtain ⟨wb, HWB⟩ : ∃ x, Hid (x = wr.alloc (.cells #[.int .i64 ax, .int .i64 ay] 32)) := ⟨_, rfl⟩
      have hww := HWB.out
      rw [← hww]
      have hbb : Below wr.heap.size wr wb := by rw [hww]; exact (Below.refl _ _).alloc (Nat.le_refl _) _
      have hp0 : wb.cell? ⟨wr.heap.size, 0, none⟩ = some (.int .i64 ax) := by rw [hww]; simp [go_sem]
      have hp1 : wb.cell? ⟨wr.heap.size, 1, none⟩ = some (.int .i64 ay) := by rw [hww]; simp [go_sem]
      have hsz : wr.heap.size < wb.heap.size := by rw [hww]; simp
      have HM1 : Hid (MRel w wb wb.heap.size t Z) := by
        obtain ⟨m1, m2, m3, m4⟩ := HM.out.below hbb
        exact ⟨m1.more m3, m2, Nat.le_refl _, Nat.le_trans m4 m3⟩
      obtain ⟨b0, HB0⟩ : ∃ b0, Hid (b0 = wr.heap.size) := ⟨_, rfl⟩
      rw [← HB0.out] at hp0 hp1 hsz ⊢
      clear hww hbb hx2 hy2
      have HP := Lib.hid (And.intro hp0 hp1)
      clear hp0 hp1
      have HT0 := Lib.hid (RowRel.start HM1.out)
      have HBL : Hid (Below wb.heap.size wb (wb.alloc (.cells #[] 3))) := (Below.refl _ _).alloc (Nat.le_refl _) _
      go_wp2_with fail
      go_loopw [8, 25] (fun o s wr => ∃ (k : Nat) (u : Value) (zs : List Int), k ≤ qs.length ∧ s = .int .i64 k ∧ u = o ∧ Hid (RowRel w wr wb.heap.size t Z u zs) ∧ Hid (zs = pmRow ax ay qs k) ∧ zs.length ≤ k ∧ Hid (Below wb.heap.size wb wr)) (fun _ s _ => qs.length - (intOf s).toNat)
      case atStart => exact ⟨0, _, [], Nat.zero_le _, rfl, rfl, HT0, rfl, Nat.le_refl _, HBL⟩
      case round =>
        obtain ⟨k, u, zs, hk, rfl, rfl, HT, HY, hyl, HBZ⟩ := hrel
        by_cases hlk : k < qs.length
        · have htk : decide ((k : Int) < (qs.length : Int)) = true := by simp only [decide_eq_true_eq]; omega
          obtain ⟨ad', rfl, hbl', hx, hy⟩ := G3'.out k hlk
          have hbz := HT.out.1.2.1
          have hx2 := (hbz.cell (p := ad'.add (k * 2)) (by rw [addBlock]; omega)).trans hx
          have hy2 := (hbz.cell (p := ⟨(ad'.add (k * 2)).block, (ad'.add (k * 2)).off + 1, none⟩) (by show (ad'.add (k * 2)).block < _; rw [addBlock]; omega)).trans hy
          have hp0 := (HBZ.out.cell (p := ⟨b0, 0, none⟩) hsz).trans HP.out.1
          have hp1 := (HBZ.out.cell (p := ⟨b0, 1, none⟩) hsz).trans HP.out.2
          have hlw : b0 < wr.heap.size := by have := HBZ.out.size; omega
          have HS := Lib.hid (pmRow_succ ax ay qs k)
          generalize px qs k = bx at *
          generalize py qs k = bY at *
          clear hx hy hbz
          go_wp2_with fail
          refine (CountPaths_any _ _ _ _ _).mono ?_
          rintro e w4 ⟨rfl, hb4⟩
          have hb5 : Below wr.heap.size wr w4 := by
            refine Below.trans ?_ (hb4.mono (by simp <;> omega))
            repeat (first | exact Below.refl _ _ | refine Below.setCell ?_ (by simp <;> omega) _ | refine Below.alloc ?_ (by simp <;> omega) _)
          have HT4 := Lib.hid (HT.out.below hb5)
          have HBZ4 := Lib.hid (HBZ.out.trans (hb5.mono HBZ.out.size))
          clear hb4 hb5 hp0 hp1 hx2 hy2
          go_wp2_with (at_builtin; refine wpList_pushInt rfl _ _ rfl HT4.out rfl (pathsZ ax ay bx bY) _ rfl (by simp) (by omega) ?_; intro u2 w5 HT5 HB5)
          go_roundw
          case rel => exact ⟨k + 1, _, _, by omega, by go_num, rfl, HT5, (by unfold Hid; rw [HS.out, HY.out]), by simp; omega, HBZ4.out.trans HB5.out⟩
          case measure => simp [intOf]; omega
        · have HK : Hid (pmAll ps qs (i + 1) = Z ++ [zs]) := by unfold Hid; rw [HZS.out, ← HZ.out, HY.out, show k = qs.length by omega]
          obtain ⟨A4, c4, rfl, _, _, _⟩ := HT.out.2.rd
          go_wp2_with (at_builtin; refine wpList_pushRow rfl _ _ rfl HT.out rfl _ rfl (by simp) (by omega) ?_; intro v2 w2 HM2 HB2)
          go_roundw
          case rel => exact ⟨i + 1, _, _, _, by omega, by go_num, rfl, HM2, (by unfold Hid; rw [HK.out]), by simp; omega⟩
          case measure => simp [intOf]; omega
    · have HK : Hid (Z = pmAll ps qs ps.length) := by unfold Hid; rw [HZ.out, show i = ps.length by omega]
      go_wp2_with fail
      go_ret
      exact ⟨_, hi, rfl, by rw [← HK.out]; exact HM.out.1, HM.out.2.2.1, HM.out.2.1⟩

theorem PathMatrix_any (u v : Value) (ps qs : List (Int × Int)) (B : Nat) (w : World) (hu : RdP w B u ps) (hv : RdP w B v qs) (hB : B ≤ w.heap.size) :
    Calls Try.prog 18 #[u, v] w (RetM w (pmZ ps qs)) := by
  cases ho : spotsOkB ps qs
  · have e0 : pmZ ps qs = [] := by simp [pmZ, ho]
    rw [e0]; clear e0
    have HU := Lib.hid hu
    have HV := Lib.hid hv
    obtain ⟨A, c, rfl, _⟩ := hu
    obtain ⟨A', c', rfl, _⟩ := hv
    go_enter Try.func18, Try.ntmps18
    go_wp2_with fail
    refine (SpotsOk_any _ _ ps qs _ _ HU.out HV.out hB).mono ?_
    rintro e w1 ⟨rfl, hb1⟩
    rw [ho]
    go_wp2_with fail
    go_ret
    exact ⟨_, 0, rfl, OwnM.none _ _, Nat.zero_le _, hb1⟩
  · have e0 : pmZ ps qs = pmAll ps qs ps.length := by simp [pmZ, ho]
    rw [e0]; exact PathMatrix_yes u v ps qs B w hu hv hB ho

end Go.Proofs.Ytpejphholomenaa
