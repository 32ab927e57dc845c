/- Contracts of eqLinkSS, markLinkSS and heldLinkSS. -/
import Derived.Test.YtpejphholomenaaNum
import Derived.Test.YtpejphholomenaaTrees
import Derived.Test.YtpejphholomenaaTriLink
import Derived.Test.YtpejphholomenaaOs
import Derived.Deep.RegionHeld3
namespace Go.Proofs.Ytpejphholomenaa
open Go.RowKit
set_option linter.unusedVariables false

/-- How many numbers a list of links has. -/
def szL (m : List Lk) : Nat := 3 * m.length
def mkL (k : Int) (m : List Lk) : List Lk := triIota k m.length

set_option maxHeartbeats 4000000 in
theorem markLinkSS_any (w0 : World) (v : Value) (xs : List (List Lk)) (base lo hi : Nat) (k : Int) (w : World) (h : NRel (kdF elLink) eLL w0 base lo w hi v xs) (hlo : w0.heap.size ≤ lo) (hl : xs.length ≤ 1048576) (hx : ∀ x ∈ xs, x.length ≤ 1048576) (hf : cntTo szL xs xs.length ≤ 1048576) (h1 : 0 ≤ k) (h2 : k + (cntTo szL xs xs.length : Int) ≤ 1048576) :
    Calls Try.prog 51 #[v, .int .i64 k] w fun e w' => e = .returned (.int .i64 (k + (cntTo szL xs xs.length : Int))) ∧ NRel (kdF elLink) eLL w0 base lo w' hi v (iotaN szL mkL k xs) ∧ Aft lo hi w w' := by
  obtain ⟨A, c, hv, r1, r2⟩ := h.len okLL
  unfold maxLen at r2
  have HXS := Lib.hid hx
  clear hx
  have HH := Lib.hid h
  have HF : Hid (0 < xs.length → ∃ g, A = some ⟨g, 0, none⟩) := by
    intro hp
    obtain ⟨ss, hA, hE, _⟩ := h
    obtain ⟨g, cap, e, _⟩ := World.ownsRow.form hA.1 (by rw [hE.1]; exact hp)
    rw [hv] at e
    simp only [Value.slice.injEq] at e
    exact ⟨g, e.1⟩
  rw [hv] at HH ⊢
  clear h hv
  go_enter Try.func51, Try.ntmps51
  go_wp2_with fail
  go_loopw [1, 5] (fun a i wr => ∃ (j : Nat) (q : Int), j ≤ xs.length ∧ a = .int .i64 q ∧ Hid (q = k + (cntTo szL xs j : Int)) ∧ i = .int .i64 j ∧ Hid (NRel (kdF elLink) eLL w0 base lo wr hi (.slice A xs.length c) (mixN szL mkL k xs j)) ∧ Aft lo hi w wr) (fun _ i _ => xs.length - (intOf i).toNat)
  case atStart => exact ⟨0, k, Nat.zero_le _, rfl, (by unfold Hid; simp [cntTo]), rfl, by (unfold Hid; rw [mixN_zero]; exact HH.out), Aft.refl _ _ _⟩
  case round =>
    obtain ⟨j, q, hj, rfl, HQ, rfl, HO, hb⟩ := hrel
    by_cases hlt : j < xs.length
    · obtain ⟨g, rfl⟩ := HF.out (by omega)
      obtain ⟨s, a, b, -, -, -, -, -, p1, p2, p3, p4, p5⟩ := HO.out.at okLL (i := j) (by rw [mixN_length]; exact hlt)
      have hxm : (mixN szL mkL k xs j)[j]'(by rw [mixN_length]; exact hlt) = xs[j] := by
        have := mixN_at (sz := szL) (mk := mkL) k xs j hlt
        rw [List.getElem?_eq_getElem (by rw [mixN_length]; exact hlt)] at this
        exact Option.some.inj this
      rw [hxm] at p3
      obtain ⟨A1, n1, c1⟩ := s
      have hfm := cntTo_mono (sz := szL) xs (j + 1) xs.length (by omega)
      have hfs := cntTo_succ (sz := szL) xs j hlt
      have hq := HQ.out
      have HW := Lib.hid p3
      have HP5 := Lib.hid p5
      have HBIG := Lib.hid HO.out.choose_spec.1.2.1
      have HSET := Lib.hid (mixN_set (sz := szL) (mk := mkL) k xs j hlt)
      have hk0 : (0 : Int) ≤ (j : Int) := by omega
      have hk1 : (j : Int) < (xs.length : Int) := by omega
      have hq0 : 0 ≤ q := by omega
      have hq1 : q ≤ 1048576 := by omega
      have HLR : Hid (szL xs[j] ≤ 1048576) := by unfold Hid; omega
      have HX : Hid (xs[j].length ≤ 1048576) := HXS.out _ (List.getElem_mem hlt)
      have HQ2 : Hid (q + (szL xs[j] : Int) = k + (cntTo szL xs (j + 1) : Int)) := by unfold Hid; omega
      have hcell : wr.cell? ⟨g, j, none⟩ = some (.slice A1 n1 c1) := p4
      have HE : Hid (mkL (k + (cntTo szL xs j : Int)) xs[j] = mkL q xs[j]) := by unfold Hid; rw [hq]
      clear p3 p4 p5 hfm hfs hq hxm
      generalize hxj : xs[j] = x at *
      clear hxj
      go_wp2_with fail
      refine (markLinkS_any _ x a q _ HW.out.1 HX.out hq0 (by omega)).mono ?_
      rintro e w1 ⟨rfl, hKP0, hg1⟩
      have hA1 : Aft a b wr w1 := OF.mark (E := elLink) HW.out hg1
      have hKP : (kdF elLink).P w1 a b (slV (A1, n1, c1)) (mkL q x) := ⟨hKP0, HW.out.2⟩
      clear hKP0 hg1
      have HN : Hid (NRel (kdF elLink) eLL w0 base lo w1 hi (.slice (some ⟨g, 0, none⟩) xs.length c) (mixN szL mkL k xs (j + 1))) := by
        unfold Hid
        rw [← HSET.out, HE.out]
        have hw0 := HBIG.out.size
        refine HP5.out w1 _ ?KP (HBIG.out.trans ⟨hA1.os, hA1.tape, hA1.output, hA1.size, fun k2 hk2 => hA1.block k2 (by omega) (.inl (by omega))⟩) hA1.size (fun k2 hk2 hh => hA1.block k2 hk2 hh)
        exact hKP
      have HB := Lib.hid (hb.trans (hA1.more p1 p2))
      clear hKP hA1
      go_wp2_with fail
      go_roundw
      case rel => exact ⟨j + 1, _, by omega, rfl, HQ2, by go_num, HN, HB.out⟩
      case measure => simp [intOf]; omega
    · have HJ : Hid (j = xs.length) := by unfold Hid; omega
      go_wp2_with fail
      go_ret
      refine ⟨ret_int (by rw [HQ.out, HJ.out]), ?_, hb⟩
      have ho := HO.out
      rw [HJ.out, mixN_all] at ho
      exact ho

set_option maxHeartbeats 4000000 in
theorem heldLinkSS_any (v : Value) (xs : List (List Lk)) (k : Int) (B : Nat) (w : World) (h : RdN (RdF elLink) w B v (iotaN szL mkL k xs)) (hl : xs.length ≤ 1048576) (hx : ∀ x ∈ xs, x.length ≤ 1048576) (hf : cntTo szL xs xs.length ≤ 1048576) (h1 : 0 ≤ k) (h2 : k + (cntTo szL xs xs.length : Int) ≤ 1048576) :
    Calls Try.prog 52 #[v, .int .i64 k] w fun e w' => e = .returned (.int .i64 (k + (cntTo szL xs xs.length : Int))) ∧ w = w' := by
  obtain ⟨A, c, rfl, g1, g2, g3⟩ := h
  rw [iotaN_length] at *
  unfold maxLen at g2
  have G3 := Lib.hid g3; clear g3
  have HXS := Lib.hid hx
  clear hx
  go_enter Try.func52, Try.ntmps52
  go_wp2_with fail
  go_loop [1, 5] (fun a i => ∃ (j : Nat) (q : Int), j ≤ xs.length ∧ a = .int .i64 q ∧ Hid (q = k + (cntTo szL xs j : Int)) ∧ i = .int .i64 j) (fun _ i => xs.length - (intOf i).toNat)
  case atStart => exact ⟨0, k, Nat.zero_le _, rfl, (by unfold Hid; simp [cntTo]), rfl⟩
  case round =>
    obtain ⟨j, q, hj, rfl, HQ, rfl⟩ := hrel
    by_cases hlt : j < xs.length
    · obtain ⟨ad, ⟨A1, n1, c1⟩, rfl, hbl, hc, hr⟩ := G3.out j _ (iotaN_at (sz := szL) (mk := mkL) k xs j hlt)
      have hfm := cntTo_mono (sz := szL) xs (j + 1) xs.length (by omega)
      have hfs := cntTo_succ (sz := szL) xs j hlt
      have hq := HQ.out
      rw [← hq] at hr
      have HW := Lib.hid hr
      have hk0 : (0 : Int) ≤ (j : Int) := by omega
      have hk1 : (j : Int) < (xs.length : Int) := by omega
      have hq0 : 0 ≤ q := by omega
      have hq1 : q ≤ 1048576 := by omega
      have HLR : Hid (szL xs[j] ≤ 1048576) := by unfold Hid; omega
      have HX : Hid (xs[j].length ≤ 1048576) := HXS.out _ (List.getElem_mem hlt)
      have HPOS : Hid (¬ q + (szL xs[j] : Int) < 0) := by unfold Hid; omega
      have HQ2 : Hid (q + (szL xs[j] : Int) = k + (cntTo szL xs (j + 1) : Int)) := by unfold Hid; omega
      clear hfm hfs hq hr
      generalize hxj : xs[j] = x at *
      clear hxj
      go_wp2_with fail
      refine (heldLinkS_any _ x.length q _ _ HW.out HX.out hq0 (by omega)).mono ?_
      rintro e w1 ⟨rfl, rfl⟩
      have hpos2 : ¬ q + 3 * (x.length : Int) < 0 := by have h1 := HPOS.out; unfold szL at h1; omega
      go_wp2_with fail
      go_round
      case rel => exact ⟨j + 1, _, by omega, rfl, HQ2, by go_num⟩
      case measure => simp [intOf]; omega
    · have HJ : Hid (q = k + (cntTo szL xs xs.length : Int)) := by unfold Hid; rw [HQ.out, show j = xs.length by omega]
      go_wp2_with fail
      go_ret
      exact ⟨ret_int HJ.out, rfl⟩

/-- Two slices side by side, in a world that grows. -/
abbrev TwoS (w w' : World) (p q : Addr) (u v : Value) : Prop := w'.cell? p = some u ∧ w'.cell? q = some v ∧ Below w.heap.size w w'
theorem TwoS.of {w w' : World} {p q : Addr} {u v : Value} (hp : p.block < w.heap.size) (hq : q.block < w.heap.size) (h1 : w.cell? p = some u) (h2 : w.cell? q = some v) (hb : Below w.heap.size w w') : TwoS w w' p q u v := ⟨(hb.cell hp).trans h1, (hb.cell hq).trans h2, hb⟩
set_option maxHeartbeats 2000000 in
theorem eqLinkSS_self (u v : Value) (xs : List (List Lk)) (B C : Nat) (w : World) (hu : RdN (RdF elLink) w B u xs) (hv : RdN (RdF elLink) w C v xs) (hB : B ≤ w.heap.size) (hC : C ≤ w.heap.size) :
    Calls Try.prog 50 #[u, v] w fun e w' => e = .returned (.bool true) ∧ Below w.heap.size w w' := by
  obtain ⟨A, c, rfl, g1, g2, g3⟩ := hu.open_
  obtain ⟨A', c', rfl, g1', g2', g3'⟩ := hv.open_
  unfold maxLen at g2 g2'
  clear hu hv
  have G3 := Lib.hid g3; clear g3
  have G3' := Lib.hid g3'; clear g3'
  go_enter Try.func50, Try.ntmps50
  go_wp2_with fail
  go_loopw [5] (fun i wr => ∃ k : Nat, k ≤ xs.length ∧ i = .int .i64 k ∧ Hid (Below w.heap.size w wr)) (fun i _ => xs.length - (intOf i).toNat)
  case atStart => exact ⟨0, Nat.zero_le _, rfl, Below.refl _ _⟩
  case round =>
    obtain ⟨k, hk, rfl, hd⟩ := hrel
    by_cases hlt : k < xs.length
    · obtain ⟨ad, ⟨A1, n1, c1⟩, rfl, hb, hc, hr⟩ := G3.out k hlt
      obtain ⟨ad', ⟨A2, n2, c2⟩, rfl, hb', hc', hr'⟩ := G3'.out k hlt
      have hk0 : (0 : Int) ≤ (k : Int) := by omega
      have hk1 : (k : Int) < (xs.length : Int) := by omega
      have HR := Lib.hid (hr.below (hd.out.mono hB)); have HR' := Lib.hid (hr'.below (hd.out.mono hC))
      have hsz := hd.out.size
      have hcw := (hd.out.cell (p := ad.add k) (by rw [addBlock]; omega)).trans hc
      have hcw' := (hd.out.cell (p := ad'.add k) (by rw [addBlock]; omega)).trans hc'
      have HB1 : Hid ((ad.add k).block < wr.heap.size ∧ (ad'.add k).block < wr.heap.size) := ⟨by rw [addBlock]; omega, by rw [addBlock]; omega⟩
      have HT : Hid (∀ W, Below wr.heap.size wr W → TwoS wr W (ad.add k) (ad'.add k) (.slice A1 n1 c1) (.slice A2 n2 c2)) := fun W h => TwoS.of HB1.out.1 HB1.out.2 hcw hcw' h
      have HBS : Hid (B ≤ wr.heap.size ∧ C ≤ wr.heap.size) := ⟨by omega, by omega⟩
      clear hr hr' hc hc' hcw hcw'
      generalize xs[k] = x at *
      go_wp2_with fail
      go_region_held3 (fun w' => TwoS wr w' (ad.add k) (ad'.add k) (.slice A1 n1 c1) (.slice A2 n2 c2))
        (first
          | exact HT.out _ (Below.refl _ _).drew
          | exact HT.out _ hb9)
        (first
          | (go_at_call 63; refine (eqLinkS_self _ _ x _ _ wr.drew (HR.out.below (Below.refl _ _).drew) (HR'.out.below (Below.refl _ _).drew) HBS.out.1 HBS.out.2).mono ?_; rintro e w9 ⟨rfl, hb8⟩; have hb9 : Below wr.heap.size wr w9 := (Below.refl _ _).drew.trans hb8))
      have HB2 := Lib.hid (hd.out.trans (hb9.mono hsz))
      go_wp2_with fail
      go_roundw
      case rel => exact ⟨k + 1, by omega, by go_num, HB2⟩
      case measure => simp [intOf]; omega
    · go_wp2_with fail
      go_ret
      exact ⟨rfl, hd.out⟩
end Go.Proofs.Ytpejphholomenaa
