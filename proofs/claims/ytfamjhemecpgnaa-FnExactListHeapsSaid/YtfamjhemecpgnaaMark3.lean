/- Contracts of eqIntSSS, markIntSSS and heldIntSSS. -/
import Derived.Test.YtfamjhemecpgnaaNum
import Derived.Test.YtfamjhemecpgnaaLHeaps
import Derived.Test.YtfamjhemecpgnaaMarkSS
import Derived.Test.YtfamjhemecpgnaaEqSS
namespace Go.Proofs.Ytfamjhemecpgnaa
open Go.RowKit
set_option linter.unusedVariables false

/-- How many numbers a matrix has. -/
def szMM (m : List (List Int)) : Nat := flatTo m m.length

set_option maxHeartbeats 4000000 in
theorem markIntSSS_any (w0 : World) (v : Value) (xs : List (List (List Int))) (base lo hi : Nat) (k : Int) (w : World) (h : NRel kdM (elSl 26 29) w0 base lo w hi v xs) (hlo : w0.heap.size ≤ lo) (hl : xs.length ≤ 1048576) (hx : ∀ x ∈ xs, x.length ≤ 1048576) (hf : cntTo szMM xs xs.length ≤ 1048576) (h1 : 0 ≤ k) (h2 : k + (cntTo szMM xs xs.length : Int) ≤ 1048576) :
    Calls Try.prog 49 #[v, .int .i64 k] w fun e w' => e = .returned (.int .i64 (k + (cntTo szMM xs xs.length : Int))) ∧ NRel kdM (elSl 26 29) w0 base lo w' hi v (iotaN szMM iotaSS k xs) ∧ Aft lo hi w w' := by
  obtain ⟨A, c, hv, r1, r2⟩ := h.len okRows
  unfold maxLen at r2
  have HXS := Lib.hid hx
  clear hx
  have HH := Lib.hid h
  have HF : Hid (0 < xs.length → ∃ g, A = some ⟨g, 0, none⟩) := by
    intro hp
    obtain ⟨ss, hA, hE, _⟩ := h
    obtain ⟨g, cap, e, _⟩ := World.ownsRow.form hA.1 (by rw [hE.1]; exact hp)
    rw [hv] at e
    simp only [Value.slice.injEq] at e
    exact ⟨g, e.1⟩
  rw [hv] at HH ⊢
  clear h hv
  go_enter Try.func49, Try.ntmps49
  go_wp2_with fail
  go_loopw [1, 5] (fun a i wr => ∃ (j : Nat) (q : Int), j ≤ xs.length ∧ a = .int .i64 q ∧ Hid (q = k + (cntTo szMM xs j : Int)) ∧ i = .int .i64 j ∧ Hid (NRel kdM (elSl 26 29) w0 base lo wr hi (.slice A xs.length c) (mixN szMM iotaSS k xs j)) ∧ Aft lo hi w wr) (fun _ i _ => xs.length - (intOf i).toNat)
  case atStart => exact ⟨0, k, Nat.zero_le _, rfl, (by unfold Hid; simp [cntTo]), rfl, by (unfold Hid; rw [mixN_zero]; exact HH.out), Aft.refl _ _ _⟩
  case round =>
    obtain ⟨j, q, hj, rfl, HQ, rfl, HO, hb⟩ := hrel
    by_cases hlt : j < xs.length
    · obtain ⟨g, rfl⟩ := HF.out (by omega)
      obtain ⟨s, a, b, -, -, -, -, -, p1, p2, p3, p4, p5⟩ := HO.out.at okRows (i := j) (by rw [mixN_length]; exact hlt)
      have hxm : (mixN szMM iotaSS k xs j)[j]'(by rw [mixN_length]; exact hlt) = xs[j] := by
        have := mixN_at (sz := szMM) (mk := iotaSS) k xs j hlt
        rw [List.getElem?_eq_getElem (by rw [mixN_length]; exact hlt)] at this
        exact Option.some.inj this
      rw [hxm] at p3
      obtain ⟨A1, n1, c1⟩ := s
      have hfm := cntTo_mono (sz := szMM) xs (j + 1) xs.length (by omega)
      have hfs := cntTo_succ (sz := szMM) xs j hlt
      have hq := HQ.out
      have HW := Lib.hid p3
      have HP5 := Lib.hid p5
      have HBIG := Lib.hid HO.out.choose_spec.1.2.1
      have HSET := Lib.hid (mixN_set (sz := szMM) (mk := iotaSS) k xs j hlt)
      have hk0 : (0 : Int) ≤ (j : Int) := by omega
      have hk1 : (j : Int) < (xs.length : Int) := by omega
      have hq0 : 0 ≤ q := by omega
      have hq1 : q ≤ 1048576 := by omega
      have HLR : Hid (szMM xs[j] ≤ 1048576) := by unfold Hid; omega
      have HX : Hid (xs[j].length ≤ 1048576) := HXS.out _ (List.getElem_mem hlt)
      have HQ2 : Hid (q + (szMM xs[j] : Int) = k + (cntTo szMM xs (j + 1) : Int)) := by unfold Hid; omega
      have hcell : wr.cell? ⟨g, j, none⟩ = some (.slice A1 n1 c1) := p4
      have HE : Hid (iotaSS (k + (cntTo szMM xs j : Int)) xs[j] = iotaSS q xs[j]) := by unfold Hid; rw [hq]
      clear p3 p4 p5 hfm hfs hq hxm
      generalize hxj : xs[j] = x at *
      clear hxj
      go_wp2_with fail
      refine (markIntSS_aft _ x a b q _ HW.out HX.out HLR.out hq0 (by omega)).mono ?_
      rintro e w1 ⟨rfl, hKP, hA1⟩
      have HN : Hid (NRel kdM (elSl 26 29) w0 base lo w1 hi (.slice (some ⟨g, 0, none⟩) xs.length c) (mixN szMM iotaSS k xs (j + 1))) := by
        unfold Hid
        rw [← HSET.out, HE.out]
        have hw0 := HBIG.out.size
        refine HP5.out w1 _ ?KP (HBIG.out.trans ⟨hA1.os, hA1.tape, hA1.output, hA1.size, fun k2 hk2 => hA1.block k2 (by omega) (.inl (by omega))⟩) hA1.size (fun k2 hk2 hh => hA1.block k2 hk2 hh)
        exact hKP
      have HB := Lib.hid (hb.trans (hA1.more p1 p2))
      clear hKP hA1
      go_wp2_with fail
      go_roundw
      case rel => exact ⟨j + 1, _, by omega, rfl, HQ2, by go_num, HN, HB.out⟩
      case measure => simp [intOf]; omega
    · have HJ : Hid (j = xs.length) := by unfold Hid; omega
      go_wp2_with fail
      go_ret
      refine ⟨ret_int (by rw [HQ.out, HJ.out]), ?_, hb⟩
      have ho := HO.out
      rw [HJ.out, mixN_all] at ho
      exact ho

set_option maxHeartbeats 4000000 in
theorem heldIntSSS_any (v : Value) (xs : List (List (List Int))) (k : Int) (B : Nat) (w : World) (h : RdN RdII w B v (iotaN szMM iotaSS k xs)) (hl : xs.length ≤ 1048576) (hx : ∀ x ∈ xs, x.length ≤ 1048576) (hf : cntTo szMM xs xs.length ≤ 1048576) (h1 : 0 ≤ k) (h2 : k + (cntTo szMM xs xs.length : Int) ≤ 1048576) :
    Calls Try.prog 50 #[v, .int .i64 k] w fun e w' => e = .returned (.int .i64 (k + (cntTo szMM xs xs.length : Int))) ∧ w = w' := by
  obtain ⟨A, c, rfl, g1, g2, g3⟩ := h
  rw [iotaN_length] at *
  unfold maxLen at g2
  have G3 := Lib.hid g3; clear g3
  have HXS := Lib.hid hx
  clear hx
  go_enter Try.func50, Try.ntmps50
  go_wp2_with fail
  go_loop [1, 5] (fun a i => ∃ (j : Nat) (q : Int), j ≤ xs.length ∧ a = .int .i64 q ∧ Hid (q = k + (cntTo szMM xs j : Int)) ∧ i = .int .i64 j) (fun _ i => xs.length - (intOf i).toNat)
  case atStart => exact ⟨0, k, Nat.zero_le _, rfl, (by unfold Hid; simp [cntTo]), rfl⟩
  case round =>
    obtain ⟨j, q, hj, rfl, HQ, rfl⟩ := hrel
    by_cases hlt : j < xs.length
    · obtain ⟨ad, ⟨A1, n1, c1⟩, rfl, hbl, hc, hr⟩ := G3.out j _ (iotaN_at (sz := szMM) (mk := iotaSS) k xs j hlt)
      have hfm := cntTo_mono (sz := szMM) xs (j + 1) xs.length (by omega)
      have hfs := cntTo_succ (sz := szMM) xs j hlt
      have hq := HQ.out
      rw [← hq] at hr
      have HW := Lib.hid hr
      have hk0 : (0 : Int) ≤ (j : Int) := by omega
      have hk1 : (j : Int) < (xs.length : Int) := by omega
      have hq0 : 0 ≤ q := by omega
      have hq1 : q ≤ 1048576 := by omega
      have HLR : Hid (szMM xs[j] ≤ 1048576) := by unfold Hid; omega
      have HX : Hid (xs[j].length ≤ 1048576) := HXS.out _ (List.getElem_mem hlt)
      have HPOS : Hid (¬ q + (szMM xs[j] : Int) < 0) := by unfold Hid; omega
      have HQ2 : Hid (q + (szMM xs[j] : Int) = k + (cntTo szMM xs (j + 1) : Int)) := by unfold Hid; omega
      clear hfm hfs hq hr
      generalize hxj : xs[j] = x at *
      clear hxj
      go_wp2_with fail
      refine (heldIntSS_any _ x q _ _ HW.out HX.out HLR.out hq0 (by omega)).mono ?_
      rintro e w1 ⟨rfl, rfl⟩
      have hpos2 : ¬ q + (flatTo x x.length : Int) < 0 := Int.not_lt.2 HPOS.out
      go_wp2_with fail
      go_round
      case rel => exact ⟨j + 1, _, by omega, rfl, HQ2, by go_num⟩
      case measure => simp [intOf]; omega
    · have HJ : Hid (q = k + (cntTo szMM xs xs.length : Int)) := by unfold Hid; rw [HQ.out, show j = xs.length by omega]
      go_wp2_with fail
      go_ret
      exact ⟨ret_int HJ.out, rfl⟩

set_option maxHeartbeats 1000000 in
theorem eqIntSSS_self (u v : Value) (xs : List (List (List Int))) (B C : Nat) (w : World) (hu : RdN RdII w B u xs) (hv : RdN RdII w C v xs) :
    Calls Try.prog 48 #[u, v] w fun e w' => e = .returned (.bool true) ∧ Drawn w w' := by
  obtain ⟨A, c, rfl, g1, g2, g3⟩ := hu.open_
  obtain ⟨A', c', rfl, g1', g2', g3'⟩ := hv.open_
  unfold maxLen at g2 g2'
  clear hu hv
  have G3 := Lib.hid g3; clear g3
  have G3' := Lib.hid g3'; clear g3'
  go_enter Try.func48, Try.ntmps48
  go_wp2_with fail
  go_loopw [5] (fun i wr => ∃ k : Nat, k ≤ xs.length ∧ i = .int .i64 k ∧ Drawn w wr) (fun i _ => xs.length - (intOf i).toNat)
  case atStart => exact ⟨0, Nat.zero_le _, rfl, Drawn.refl _⟩
  case round =>
    obtain ⟨k, hk, rfl, hd⟩ := hrel
    by_cases hlt : k < xs.length
    · obtain ⟨ad, ⟨A1, n1, c1⟩, rfl, hb, hc, hr⟩ := G3.out k hlt
      obtain ⟨ad', ⟨A2, n2, c2⟩, rfl, hb', hc', hr'⟩ := G3'.out k hlt
      have hk0 : (0 : Int) ≤ (k : Int) := by omega
      have hk1 : (k : Int) < (xs.length : Int) := by omega
      have HR := Lib.hid (hr.below (hd.below _)); have HR' := Lib.hid (hr'.below (hd.below _))
      have hcw := ((hd.below _).cell (p := ad.add k) (Nat.lt_succ_self _)).trans hc
      have hcw' := ((hd.below _).cell (p := ad'.add k) (Nat.lt_succ_self _)).trans hc'
      clear hr hr' hc hc'
      unfold slV at *
      go_wp2_with fail
      go_quiet ((go_at_call 115; exact quietDrawn (eqIntSS_self _ _ (xs[k]) _ _ _ (HR.out.below (Drawn.below ⟨_, rfl⟩ _)) (HR'.out.below (Drawn.below ⟨_, rfl⟩ _)))))
      go_wp2_with fail
      go_roundw
      case rel => exact ⟨k + 1, by omega, by go_num, hd.trans ⟨_, rfl⟩⟩
      case measure => simp [intOf]; omega
    · go_wp2_with fail
      go_ret
      exact ⟨rfl, hd⟩
end Go.Proofs.Ytfamjhemecpgnaa
