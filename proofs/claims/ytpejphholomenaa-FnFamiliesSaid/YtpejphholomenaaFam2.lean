/- The contracts of the program's families and CountFamilies. -/
import Derived.Test.YtpejphholomenaaFam
namespace Go.Proofs.Ytpejphholomenaa
open Go.RowKit

/-- Points with numbers from 0 to 5. -/
def Few (ps : List (Int × Int)) : Prop := ∀ q ∈ ps, (0 ≤ q.1 ∧ q.1 ≤ 5) ∧ 0 ≤ q.2 ∧ q.2 ≤ 5
theorem RdP.keep' {w w' : World} {B : Nat} {v : Value} {ps : List (Int × Int)} (h : RdP w B v ps) (hB : B ≤ w.heap.size) (hb : Below w.heap.size w w') : RdP w' w.heap.size v ps := by
  obtain ⟨A, c, e, h1, h2, h3⟩ := h
  refine ⟨A, c, e, h1, h2, fun j hj => ?_⟩
  obtain ⟨ad, e2, hbl, x1, x2⟩ := h3 j hj
  exact ⟨ad, e2, by omega, (hb.cell (by rw [addBlock]; omega)).trans x1, (hb.cell (by show (ad.add (j * 2)).block < _; rw [addBlock]; omega)).trans x2⟩
set_option maxRecDepth 100000 in
set_option maxHeartbeats 4000000 in
theorem families_any : ∀ (ps qs : List (Int × Int)), ps.length = qs.length → Few ps → Few qs → ∀ (T : Nat) (u v : Value) (B : Nat) (w : World), T < 18446744073709551616 → RdP w B u ps → RdP w B v qs → B ≤ w.heap.size →
      Calls Try.prog 68 #[u, v, .int .u64 (T : Int)] w (FamPost w (famZ ps qs T))
  | [], [], _, _, _, T, u, v, B, w, hT, hu, hv, hB => by
    obtain ⟨A, c, rfl, _⟩ := hu
    obtain ⟨A', c', rfl, _⟩ := hv
    go_enter Try.func68, Try.ntmps68
    go_wp2_with fail
    go_ret
    exact ⟨ret_int (by simp [famZ, wrap64]), ((Below.refl _ _).alloc (Nat.le_refl _) _).alloc (by simp) _⟩
  | (px', py') :: ps, (qx, qy) :: qs, hl, hp, hq, T, u, v, B, w, hT, hu, hv, hB => by
    have IH := families_any ps qs (by simpa using hl) (fun x hx => hp x (List.mem_cons_of_mem _ hx)) (fun x hx => hq x (List.mem_cons_of_mem _ hx))
    obtain ⟨⟨a1, a2⟩, a3, a4⟩ := hp _ (List.mem_cons_self ..)
    obtain ⟨⟨b1, b2⟩, b3, b4⟩ := hq _ (List.mem_cons_self ..)
    obtain ⟨sx, rfl⟩ := Int.eq_ofNat_of_zero_le a1
    obtain ⟨sy, rfl⟩ := Int.eq_ofNat_of_zero_le a3
    obtain ⟨ex, rfl⟩ := Int.eq_ofNat_of_zero_le b1
    obtain ⟨ey, rfl⟩ := Int.eq_ofNat_of_zero_le b3
    have HU := Lib.hid hu
    have HV := Lib.hid hv
    obtain ⟨A0, c, rfl, g1, g2, hQ⟩ := hu
    obtain ⟨A0', c', rfl, g1', g2', _⟩ := hv
    obtain ⟨A, rfl, hAb, hA0, hA1⟩ := hQ 0 (by simp)
    rw [Nat.zero_mul, Addr.add_zero'] at hA0 hA1
    have hA0 : w.cell? A = some (.int .i64 (sx : Int)) := hA0
    have hA1 : w.cell? ⟨A.block, A.off + 1, none⟩ = some (.int .i64 (sy : Int)) := hA1
    have hW := walk_any w.heap.size (.slice (some A) (ps.length + 1) c) (.slice A0' (qs.length + 1) c') ((sx : Int), (sy : Int)) ex ey ps qs (famZ ps qs) (by omega) (by omega) IH 20 sx sy T (by omega) (by omega) hT (by omega) (by omega)
    clear hQ IH hl hp hq
    have hmf : ∀ (fn : Fn) (first cap : Array Value) (w : World), (Instr.makeFunc fn first cap).run Try.prog w = .ok (.func fn first cap) w := fun _ _ _ _ => rfl
    go_enter Try.func68, Try.ntmps68
    go_wp2_with fail
    obtain ⟨W, hW1, k0, k1, k2, k3, hb⟩ := four_alloc w (.cells #[.slice (some A) (ps.length + 1) c] 24) (.cells #[.slice A0' (qs.length + 1) c'] 24) (.cells #[.int .i64 0] 3) (.cells #[clos w.heap.size] 130)
    unfold clos at hW1
    rw [← hW1]
    have hs : w.heap.size + 3 < W.heap.size := lt_of_block k3
    have hE : Env W w.heap.size (.slice (some A) (ps.length + 1) c) (.slice A0' (qs.length + 1) c') (((sx : Int), (sy : Int)) :: ps) (((ex : Int), (ey : Int)) :: qs) :=
      ⟨k0, k1, k3, HU.out.keep' hB hb, HV.out.keep' hB hb⟩
    have HO : Hid (Out W w.heap.size 0) := ⟨k2, by simp [wrap64]⟩
    have HE := Lib.hid hE
    have HB := Lib.hid hb
    have e0 : W.cell? ⟨w.heap.size, 0, none⟩ = some (.slice (some A) (ps.length + 1) c) := cell_of_one k0
    have e3 : W.cell? ⟨w.heap.size + 1 + 1 + 1, 0, none⟩ = some (clos w.heap.size) := cell_of_one k3
    have e4 : W.cell? A = some (.int .i64 (sx : Int)) := (hb.cell (by omega)).trans hA0
    have e5 : W.cell? ⟨A.block, A.off + 1, none⟩ = some (.int .i64 (sy : Int)) := (hb.cell (by simp; omega)).trans hA1
    unfold clos at e3
    clear hW1 k0 k1 k2 k3 hb hE hA0 hA1
    go_still_tail 5, (by kernel_rfl)
    change wpList _ _ _ _ _ W.drew
    have HE2 : Hid (Env W.drew w.heap.size (.slice (some A) (ps.length + 1) c) (.slice A0' (qs.length + 1) c') (((sx : Int), (sy : Int)) :: ps) (((ex : Int), (ey : Int)) :: qs)) := HE.out.grown (grownBy_drewN W 1 _)
    have HO2 : Hid (Out W.drew w.heap.size 0) := HO.out
    have HB2 : Hid (Below w.heap.size w W.drew) := HB.out.drew
    have hs2 : w.heap.size + 3 < W.drew.heap.size := hs
    clear e0 e3 e4 e5 HE HO HB hs
    generalize W.drew = W2 at *
    go_wp2_with fail
    refine (hW 0 W2 HE2.out HO2.out).mono ?_
    rintro e w5 ⟨rfl, hO5, hg5⟩
    rw [Int.zero_add] at hO5
    have hc : w5.cell? ⟨w.heap.size + 1 + 1, 0, none⟩ = some (.int .i64 (wrap64 (walkZ ex ey (famZ ps qs) 20 sx sy T))) := cell_of_one hO5.1
    have hB5 := Lib.hid (HB2.out.grown hg5 HB2.out.size (fun k hk => by simp at hk; omega))
    clear hO5 hg5
    go_wp2_with fail
    go_ret
    exact ⟨ret_int (by rw [famZ]; simp), hB5.out⟩
  | [], _ :: _, hl, _, _, _, _, _, _, _, _, _, _, _ => absurd hl (by simp)
  | _ :: _, [], hl, _, _, _, _, _, _, _, _, _, _, _ => absurd hl (by simp)

theorem few_of {ps : List (Int × Int)} (h : spotsB 5 ps = true) : Few ps := by
  intro q hq
  obtain ⟨j, hj, rfl⟩ := List.getElem_of_mem hq
  have := (upFrom_iff _ _ _).1 h j (Nat.zero_le _) hj
  have := (spotB_iff _ _ _).1 this
  simpa [px, py, hj] using this
/-- What CountFamilies returns. -/
def cfZ (ps qs : List (Int × Int)) : Int := if spotsOkB ps qs && spotsB 5 ps && spotsB 5 qs then wrap64 (famZ ps qs 0) else 0
set_option maxRecDepth 100000 in
set_option maxHeartbeats 1000000 in
theorem CountFamilies_any (u v : Value) (ps qs : List (Int × Int)) (B : Nat) (w : World) (hu : RdP w B u ps) (hv : RdP w B v qs) (hB : B ≤ w.heap.size) :
    Calls Try.prog 17 #[u, v] w fun e w' => e = .returned (.int .i64 (cfZ ps qs)) ∧ Below w.heap.size w w' := by
  have HU := Lib.hid hu
  have HV := Lib.hid hv
  obtain ⟨A, c, rfl, _⟩ := hu
  obtain ⟨A', c', rfl, _⟩ := hv
  cases h1 : spotsOkB ps qs
  · have HF : Hid ((0 : Int) = cfZ ps qs) := by unfold Hid cfZ; rw [h1]; rfl
    generalize cfZ ps qs = r at *
    go_enter Try.func17, Try.ntmps17
    go_wp2_with fail
    refine (SpotsOk_any _ _ ps qs _ _ HU.out HV.out hB).mono ?_
    rintro e w1 ⟨rfl, hb1⟩
    rw [h1]
    go_wp2_with fail
    go_ret
    exact ⟨ret_int HF.out, hb1⟩
  · cases h2 : spotsB 5 ps
    · have HF : Hid ((0 : Int) = cfZ ps qs) := by unfold Hid cfZ; rw [h1, h2]; rfl
      generalize cfZ ps qs = r at *
      go_enter Try.func17, Try.ntmps17
      go_wp2_with fail
      refine (SpotsOk_any _ _ ps qs _ _ HU.out HV.out hB).mono ?_
      rintro e w1 ⟨rfl, hb1⟩
      rw [h1]
      have hs1 := hb1.size
      go_wp2_with fail
      refine (areSpots_any _ ps 5 _ _ (HU.out.below (hb1.mono hB)) (Nat.le_trans hB hs1)).mono ?_
      rintro e w2 ⟨rfl, hb2⟩
      rw [h2]
      go_wp2_with fail
      go_ret
      exact ⟨ret_int HF.out, hb1.trans (hb2.mono hs1)⟩
    · cases h3 : spotsB 5 qs
      · have HF : Hid ((0 : Int) = cfZ ps qs) := by unfold Hid cfZ; rw [h1, h2, h3]; rfl
        generalize cfZ ps qs = r at *
        go_enter Try.func17, Try.ntmps17
        go_wp2_with fail
        refine (SpotsOk_any _ _ ps qs _ _ HU.out HV.out hB).mono ?_
        rintro e w1 ⟨rfl, hb1⟩
        rw [h1]
        have hs1 := hb1.size
        go_wp2_with fail
        refine (areSpots_any _ ps 5 _ _ (HU.out.below (hb1.mono hB)) (Nat.le_trans hB hs1)).mono ?_
        rintro e w2 ⟨rfl, hb2⟩
        rw [h2]
        have hb2' := hb1.trans (hb2.mono hs1)
        go_wp2_with fail
        refine (areSpots_any _ qs 5 _ _ (HV.out.below (hb2'.mono hB)) (Nat.le_trans hB hb2'.size)).mono ?_
        rintro e w3 ⟨rfl, hb3⟩
        rw [h3]
        go_wp2_with fail
        go_ret
        exact ⟨ret_int HF.out, hb2'.trans (hb3.mono hb2'.size)⟩
      · have HF : Hid (wrap64 (famZ ps qs 0) = cfZ ps qs) := by unfold Hid cfZ; rw [h1, h2, h3]; rfl
        have HL : Hid (ps.length = qs.length) := by unfold Hid; have := h1; simp only [spotsOkB, Bool.and_eq_true, decide_eq_true_eq] at this; omega
        have hf1 : Few ps := few_of h2
        have hf2 : Few qs := few_of h3
        generalize cfZ ps qs = r at *
        go_enter Try.func17, Try.ntmps17
        go_wp2_with fail
        refine (SpotsOk_any _ _ ps qs _ _ HU.out HV.out hB).mono ?_
        rintro e w1 ⟨rfl, hb1⟩
        rw [h1]
        have hs1 := hb1.size
        go_wp2_with fail
        refine (areSpots_any _ ps 5 _ _ (HU.out.below (hb1.mono hB)) (Nat.le_trans hB hs1)).mono ?_
        rintro e w2 ⟨rfl, hb2⟩
        rw [h2]
        have hb2' := hb1.trans (hb2.mono hs1)
        go_wp2_with fail
        refine (areSpots_any _ qs 5 _ _ (HV.out.below (hb2'.mono hB)) (Nat.le_trans hB hb2'.size)).mono ?_
        rintro e w3 ⟨rfl, hb3⟩
        rw [h3]
        have hb3' := hb2'.trans (hb3.mono hb2'.size)
        go_wp2_with fail
        refine (families_any ps qs HL.out hf1 hf2 0 _ _ B _ (by omega) (HU.out.below (hb3'.mono hB)) (HV.out.below (hb3'.mono hB)) (Nat.le_trans hB hb3'.size)).mono ?_
        rintro e w4 ⟨rfl, hb4⟩
        go_wp2_with fail
        go_ret
        exact ⟨ret_int HF.out, hb3'.trans (hb4.mono hb3'.size)⟩
end Go.Proofs.Ytpejphholomenaa
