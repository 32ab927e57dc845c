/- What the claim's walk rests on: parts Mov, Mov2, Seen, SameD, FixA, FixI, Links, Posts. -/
import Derived.Test.YtehnbalbpfmijaaDoorKa7
import Derived.Test.YtehnbalbpfmijaaDoorKa3
import Derived.Test.YtehnbalbpfmijaaDoorKa6
import Derived.Test.YtehnbalbpfmijaaDoorKa1
import Derived.Test.YtehnbalbpfmijaaDoorKa4
import Derived.Test.YtehnbalbpfmijaaDoorKa5
import Derived.Deep.QuietTactic
import Derived.BigQuiet
namespace Go.Proofs.YtehnbalbpfmijaaDoor
open Go.RowKit
set_option linter.unusedVariables false

theorem alloc_blk {W w7 : World} {o : Obj} (h : W.alloc o = w7) : w7.heap[W.heap.size]? = some o ∧ Below W.heap.size W w7 := by
  rw [← h]; exact ⟨heap_alloc_new _ _, (Below.refl _ _).alloc (Nat.le_refl _) _⟩
theorem tri_set {w w8 : World} {b : Nat} {x0 y0 x y : Int} {d0 d : Bool} {t : TypeId} (k : w.heap[b]? = some (triO x0 y0 d0 t)) (h : ((w.setCell ⟨b, 0, none⟩ (.int .i64 x)).setCell ⟨b, 1, none⟩ (.int .i64 y)).setCell ⟨b, 2, none⟩ (.bool d) = w8) : w8.heap[b]? = some (triO x y d t) ∧ Below b w w8 := by
  rw [← h]
  exact ⟨blk_setCell (k := 2) (blk_setCell (k := 1) (blk_setCell (k := 0) k (.int .i64 x)) (.int .i64 y)) (.bool d), (((Below.refl b w).setCell (p := ⟨b, 0, none⟩) (Nat.le_refl _) _).setCell (p := ⟨b, 1, none⟩) (Nat.le_refl _) _).setCell (p := ⟨b, 2, none⟩) (Nat.le_refl _) _⟩
theorem TwoC.keepB {W W0 w1 : World} {a b B : Nat} {x y x2 y2 : Int} (hb : Below B W0 w1) (hB : W.heap.size ≤ B) (ha : a < W.heap.size) (hbb : b < W.heap.size) (h : TwoC W W0 a b x y x2 y2) : TwoC W w1 a b x y x2 y2 := by
  obtain ⟨h1, h2, h3, h4, h5, h6⟩ := h
  have q : ∀ p : Addr, p.block < W.heap.size → w1.cell? p = W0.cell? p := fun p hp => hb.cell (by omega)
  exact ⟨(q _ ha).trans h1, (q _ ha).trans h2, (q _ hbb).trans h3, (q _ hbb).trans h4, Nat.le_trans h5 hb.size, h6.trans (hb.mono hB)⟩
theorem fltB_nat {s : Nat} {ls : List Lk} (h : fltB s s ls = true) : 1 ≤ s ∧ s ≤ 8 ∧ sTileB (setZ (rectZ s s)) ls = true := by
  unfold fltB at h
  simp only [Bool.and_eq_true, inB_iff, Int.toNat_natCast] at h
  exact ⟨by omega, by omega, h.2⟩
def RetTiling (w : World) (b : Bool) (xs : List Lk) (e : Ending) (w' : World) : Prop := ∃ u, e = .returned (.tuple #[u, .bool b]) ∧ OwnF elDomino w' w.heap.size u xs ∧ Below w.heap.size w w'

set_option maxHeartbeats 1000000 in
theorem turn_one (s x y : Int) (hs : 1 ≤ s ∧ s ≤ 8) (hx : 0 ≤ x ∧ x < s) (hy : 0 ≤ y ∧ y < s) (n0 : Nat) (w : World) (h : w.heap[n0]? = some (.cells #[.int .i64 s] 3 (0, 0))) :
    Calls Tryd.prog 53 #[spotV x y, .pointer (some ⟨n0, 0, none⟩)] w fun e w' => e = .returned (spotV (mapC true s x y).1 (mapC true s x y).2) ∧ Below w.heap.size w w' := by
  obtain ⟨W, hW, k0, k1, hb⟩ := two_alloc w (.cells #[.int .i64 x, .int .i64 y] 41) (.cells #[.int .i64 0, .int .i64 0] 41)
  have h2 := blk_below h hb
  have c0 : W.cell? ⟨n0, 0, none⟩ = some (.int .i64 s) := cell_of_one h2
  have c1 : W.cell? ⟨w.heap.size, 0, none⟩ = some (.int .i64 x) := by rw [blk_cell k0]; rfl
  have c2 : W.cell? ⟨w.heap.size, 1, none⟩ = some (.int .i64 y) := by rw [blk_cell k0]; rfl
  have d1 : W.cell? ⟨w.heap.size + 1, 0, none⟩ = some (.int .i64 0) := by rw [blk_cell k1]; rfl
  have d2 : W.cell? ⟨w.heap.size + 1, 1, none⟩ = some (.int .i64 0) := by rw [blk_cell k1]; rfl
  have d3 : ∀ o, W.frozen? ⟨w.heap.size + 1, o, none⟩ = false := fun o => blk_free k1
  have HW := Lib.hid hW; have HB := Lib.hid hb; have HK1 := Lib.hid k1
  have e1 : IntKind.i64.wrap (s - 1) = s - 1 := IntWalk.i64_in _ (by omega)
  have e2 : IntKind.i64.wrap (s - 1 - y) = s - 1 - y := IntWalk.i64_in _ (by omega)
  have e3 : -9223372036854775808 ≤ s - 1 ∧ s - 1 ≤ 9223372036854775807 := by omega
  clear hW hb k0 k1 h2 h
  go_enter Tryd.func53, Tryd.ntmps53
  go_upto_region 1 with (fail)
  rw [← HW.out]
  go_wp2_with fail
  have hx9 := blk_setCell (k := 1) (blk_setCell (k := 0) HK1.out (.int .i64 (mapC true s x y).1)) (.int .i64 (mapC true s x y).2)
  have hb9 := (HB.out.setCell (p := ⟨w.heap.size + 1, 0, none⟩) (by simp) (.int .i64 (mapC true s x y).1)).setCell (p := ⟨w.heap.size + 1, 1, none⟩) (by simp) (.int .i64 (mapC true s x y).2)
  obtain ⟨X, HX⟩ : ∃ X, Hid (X = (W.setCell ⟨w.heap.size + 1, 0, none⟩ (.int .i64 (mapC true s x y).1)).setCell ⟨w.heap.size + 1, 1, none⟩ (.int .i64 (mapC true s x y).2)) := ⟨_, rfl⟩
  rw [← HX.out] at hx9 hb9
  have r0 : X.cell? ⟨w.heap.size + 1, 0, none⟩ = some (.int .i64 (mapC true s x y).1) := by rw [blk_cell hx9]; rfl
  have r1 : X.cell? ⟨w.heap.size + 1, 1, none⟩ = some (.int .i64 (mapC true s x y).2) := by rw [blk_cell hx9]; rfl
  show bodyPost _ _ _ _ _ ((W.setCell ⟨w.heap.size + 1, 0, none⟩ (.int .i64 (mapC true s x y).1)).setCell ⟨w.heap.size + 1, 1, none⟩ (.int .i64 (mapC true s x y).2))
  rw [← HX.out]
  exact bodyPost_ret (v := spotV (mapC true s x y).1 (mapC true s x y).2) (by simp [results, Tryd.results53, go_sem, r0, r1]) rfl ⟨rfl, hb9⟩

set_option maxHeartbeats 1000000 in
theorem mirror_one (s x y : Int) (hs : 1 ≤ s ∧ s ≤ 8) (hx : 0 ≤ x ∧ x < s) (hy : 0 ≤ y ∧ y < s) (n0 : Nat) (w : World) (h : w.heap[n0]? = some (.cells #[.int .i64 s] 3 (0, 0))) :
    Calls Tryd.prog 52 #[spotV x y, .pointer (some ⟨n0, 0, none⟩)] w fun e w' => e = .returned (spotV (mapC false s x y).1 (mapC false s x y).2) ∧ Below w.heap.size w w' := by
  obtain ⟨W, hW, k0, k1, hb⟩ := two_alloc w (.cells #[.int .i64 x, .int .i64 y] 41) (.cells #[.int .i64 0, .int .i64 0] 41)
  have h2 := blk_below h hb
  have c0 : W.cell? ⟨n0, 0, none⟩ = some (.int .i64 s) := cell_of_one h2
  have c1 : W.cell? ⟨w.heap.size, 0, none⟩ = some (.int .i64 x) := by rw [blk_cell k0]; rfl
  have c2 : W.cell? ⟨w.heap.size, 1, none⟩ = some (.int .i64 y) := by rw [blk_cell k0]; rfl
  have d1 : W.cell? ⟨w.heap.size + 1, 0, none⟩ = some (.int .i64 0) := by rw [blk_cell k1]; rfl
  have d2 : W.cell? ⟨w.heap.size + 1, 1, none⟩ = some (.int .i64 0) := by rw [blk_cell k1]; rfl
  have d3 : ∀ o, W.frozen? ⟨w.heap.size + 1, o, none⟩ = false := fun o => blk_free k1
  have HW := Lib.hid hW; have HB := Lib.hid hb; have HK1 := Lib.hid k1
  have e1 : IntKind.i64.wrap (s - 1) = s - 1 := IntWalk.i64_in _ (by omega)
  have e2 : IntKind.i64.wrap (s - 1 - x) = s - 1 - x := IntWalk.i64_in _ (by omega)
  have e3 : -9223372036854775808 ≤ s - 1 ∧ s - 1 ≤ 9223372036854775807 := by omega
  clear hW hb k0 k1 h2 h
  go_enter Tryd.func52, Tryd.ntmps52
  go_upto_region 1 with (fail)
  rw [← HW.out]
  go_wp2_with fail
  have hx9 := blk_setCell (k := 1) (blk_setCell (k := 0) HK1.out (.int .i64 (mapC false s x y).1)) (.int .i64 (mapC false s x y).2)
  have hb9 := (HB.out.setCell (p := ⟨w.heap.size + 1, 0, none⟩) (by simp) (.int .i64 (mapC false s x y).1)).setCell (p := ⟨w.heap.size + 1, 1, none⟩) (by simp) (.int .i64 (mapC false s x y).2)
  obtain ⟨X, HX⟩ : ∃ X, Hid (X = (W.setCell ⟨w.heap.size + 1, 0, none⟩ (.int .i64 (mapC false s x y).1)).setCell ⟨w.heap.size + 1, 1, none⟩ (.int .i64 (mapC false s x y).2)) := ⟨_, rfl⟩
  rw [← HX.out] at hx9 hb9
  have r0 : X.cell? ⟨w.heap.size + 1, 0, none⟩ = some (.int .i64 (mapC false s x y).1) := by rw [blk_cell hx9]; rfl
  have r1 : X.cell? ⟨w.heap.size + 1, 1, none⟩ = some (.int .i64 (mapC false s x y).2) := by rw [blk_cell hx9]; rfl
  show bodyPost _ _ _ _ _ ((W.setCell ⟨w.heap.size + 1, 0, none⟩ (.int .i64 (mapC false s x y).1)).setCell ⟨w.heap.size + 1, 1, none⟩ (.int .i64 (mapC false s x y).2))
  rw [← HX.out]
  exact bodyPost_ret (v := spotV (mapC false s x y).1 (mapC false s x y).2) (by simp [results, Tryd.results52, go_sem, r0, r1]) rfl ⟨rfl, hb9⟩

set_option maxRecDepth 100000 in
set_option maxHeartbeats 8000000 in
theorem moved_turn (s : Nat) (v : Value) (ls : List Lk) (n0 : Nat) (B : Nat) (w : World) (h : RdF elDomino w B v ls) (hB : B ≤ w.heap.size) (hn : w.heap[n0]? = some (.cells #[.int .i64 (s : Int)] 3 (0, 0))) (hf : fltB s s ls = true) :
    Calls Tryd.prog 51 #[.int .i64 (s : Int), v, .func (.func 53) #[] #[.pointer (some ⟨n0, 0, none⟩)]] w (RetTiling w true (movZ true s ls)) := by
  have HZ : Hid (movZ true s ls = sortI (movTo true s ls ls.length) ls.length) := by unfold Hid movZ; rw [hf]; rfl
  rw [HZ.out]
  obtain ⟨hs1, hs2, ht⟩ := fltB_nat hf
  have hls := tile_short hs2 ht
  have HIN := Lib.hid (fun k (hk : k < ls.length) => tile_in hs2 ht hk)
  have HLEN := Lib.hid (movTo_len true (s : Int) ls)
  have HMS : Hid (∀ k, movTo true (s : Int) ls (k + 1) = movTo true (s : Int) ls k ++ [movL true (s : Int) (dAt ls k)]) := fun k => rfl
  have HM0 : Hid (movTo true (s : Int) ls 0 = []) := rfl
  obtain ⟨mv, HMV0⟩ : ∃ mv, Hid (mv = movTo true (s : Int) ls) := ⟨_, rfl⟩
  rw [← HMV0.out] at HMS HM0 HLEN ⊢
  have HV := Lib.hid h
  obtain ⟨A, c, rfl, g1, g2, G3⟩ := RdT.of (E := elDomino) rfl (fun _ => rfl) h
  unfold maxLen at g2
  have t1 : inB (s : Int) 1 8 = true := inB_true (by omega) (by omega)
  have hok := rectZ_ok s s hs2 hs2
  have HT : Hid (tileB (setZ (rectZ s s)) ls = true) := by unfold Hid; rw [tile_eq (setZ_lt hok)]; exact ht
  have HOK := Lib.hid hok
  have HN := Lib.hid hn
  clear hok ht h hf HMV0 HZ hn
  go_enter Tryd.func51, Tryd.ntmps51
  go_wp2_with fail
  refine (within_any _ _ _ _).mono ?_
  rintro e w' ⟨rfl, rfl⟩
  rw [t1]
  go_wp2_with fail
  refine (Rectangle_yes s s ⟨hs1, hs2⟩ ⟨hs1, hs2⟩ _).mono ?_
  rintro e w1 ⟨u1, rfl, hr1, hb1⟩
  have HR1 := Lib.hid hr1
  have HB1 := Lib.hid hb1
  clear hb1 hr1
  go_wp2_with fail
  refine (IsTiling_yes _ _ _ ls _ _ HR1.out ((HV.out.below (HB1.out.mono hB)).more (Nat.le_trans hB HB1.out.size)) (Nat.le_refl _) HOK.out).mono ?_
  rintro e w2 ⟨rfl, hb2⟩
  rw [HT.out]
  have HB2 := Lib.hid (HB1.out.trans (hb2.mono HB1.out.size))
  clear hb2
  have HA0 : Hid (Acc elDomino w w.heap.size (w2.alloc (.cells #[] 39)) (.slice (some ⟨w2.heap.size, 0, none⟩) 0 0) []) := by
    have := Acc.startAt (E := elDomino) HB2.out (Nat.le_refl _) HB2.out.size
    exact this
  go_wp2_with fail
  go_loopw [8, 29] (fun o i wr => ∃ (k : Nat) (u : Value), k ≤ ls.length ∧ i = .int .i64 (k : Int) ∧ u = o ∧ Hid (Acc elDomino w w.heap.size wr u (mv k))) (fun _ i _ => ls.length - (intOf i).toNat)
  case atStart => exact ⟨0, _, Nat.zero_le _, rfl, rfl, by rw [HM0.out]; exact HA0⟩
  case round =>
    obtain ⟨k, u, hk, rfl, rfl, HA⟩ := hrel
    obtain ⟨A1, ca, hv, q1, q2, _⟩ := HA.out.1.rd okDomino
    have hml := HLEN.out k
    rw [hml] at hv q1
    subst hv
    unfold maxLen at q2
    by_cases hlt : k < ls.length
    · have ht : decide ((k : Int) < (ls.length : Int)) = true := by simp only [decide_eq_true_eq]; omega
      obtain ⟨ad, rfl, hbl, hx, hy, hz⟩ := G3.out k hlt
      have hbl2 : (ad.add (k * 3)).block < w.heap.size := by rw [addBlock]; omega
      have hbw := HA.out.2.1
      have hx' := (hbw.cell (p := ad.add (k * 3)) hbl2).trans hx
      have hy' := (hbw.cell (p := ⟨(ad.add (k * 3)).block, (ad.add (k * 3)).off + 1, none⟩) hbl2).trans hy
      have hz' := (hbw.cell (p := ⟨(ad.add (k * 3)).block, (ad.add (k * 3)).off + 2, none⟩) hbl2).trans hz
      obtain ⟨hd, hxb, hyb, hxb2, hyb2⟩ := HIN.out k hlt
      have hnx := snd_next hd
      have HMK : Hid (mv (k + 1) = mv k ++ [overL (mapC true s (lx ls k) (ly ls k)).1 (mapC true s (lx ls k) (ly ls k)).2 (mapC true s (sndX (lx ls k) (ld ls k)) (sndY (ly ls k) (ld ls k))).1 (mapC true s (sndX (lx ls k) (ld ls k)) (sndY (ly ls k) (ld ls k))).2]) := HMS.out k
      have HOV0 := Lib.hid (fun V => DominoOver_yes _ _ _ _ (next_mov true hs2 hxb hyb hxb2 hyb2 hnx) V)
      have HEN := Lib.hid (fun V => ends_any (lx ls k) (ly ls k) (ld ls k) V)
      have hk0 : (0 : Int) ≤ (k : Int) := by omega
      have hk1 : (k : Int) < (ls.length : Int) := by omega
      generalize sndX (lx ls k) (ld ls k) = x2 at *
      generalize sndY (ly ls k) (ld ls k) = y2 at *
      generalize lx ls k = x at *
      generalize ly ls k = y at *
      generalize ld ls k = d at *
      obtain ⟨nx, ny, nd, HON⟩ : ∃ nx ny nd, Hid (overL (mapC true s x y).1 (mapC true s x y).2 (mapC true s x2 y2).1 (mapC true s x2 y2).2 = (nx, ny, nd)) := ⟨_, _, _, rfl⟩
      have HMV : Hid (mv (k + 1) = mv k ++ [(nx, ny, nd)]) := by unfold Hid; rw [HMK.out, HON.out]
      have HOV : Hid (∀ V, Calls Tryd.prog 68 #[spotV (mapC true s x y).1 (mapC true s x y).2, spotV (mapC true s x2 y2).1 (mapC true s x2 y2).2] V fun e w' => e = .returned (.tuple #[triV nx ny nd, .bool true]) ∧ Below V.heap.size V w') := by
        have h9 := HOV0.out
        rw [HON.out] at h9
        exact h9
      have hm32 : (mv k).length ≤ 32 := by rw [hml]; omega
      generalize mv k = ys at *
      clear hx hy hz hbw HMK HOV0 HON hnx hd hml
      go_wp2_with fail
      obtain ⟨V0, hV0, k9, hbV0⟩ := one_alloc wr (triO x y d 39)
      rw [← hV0]
      obtain ⟨f0, f1, f2⟩ := tri_cells k9
      have HAV0 := Lib.hid (HA.out.below hbV0)
      clear hV0 k9 hbV0 hx' hy' hz'
      go_wp2_with fail
      refine (HEN.out _).mono ?_
      rintro e w3 ⟨rfl, hb3⟩
      have HA3 := Lib.hid (HAV0.out.below hb3)
      clear f0 f1 f2 hb3
      go_wp2_with fail
      obtain ⟨V, hV, k1, k2, hbV⟩ := two_alloc w3 (.cells #[.int .i64 x, .int .i64 y] 41) (.cells #[.int .i64 x2, .int .i64 y2] 41)
      rw [← hV]
      have HAV := Lib.hid (HA3.out.below hbV)
      have HN0 := Lib.hid (blk_below HN.out HAV.out.2.1)
      have HS0 : Hid (TwoC V V w3.heap.size (w3.heap.size + 1) x y x2 y2) := ⟨by rw [blk_cell k1]; rfl, by rw [blk_cell k1]; rfl, by rw [blk_cell k2]; rfl, by rw [blk_cell k2]; rfl, Nat.le_refl _, Below.refl _ _⟩
      have L1 := Lib.hid (lt_of_block k1)
      have L2 := Lib.hid (lt_of_block k2)
      clear hV k1 k2 hbV
      refine wp_region_held_drew (S := fun w' => TwoC V w' w3.heap.size (w3.heap.size + 1) x y x2 y2) (by kernel_rfl) (by exact HS0.out.drew) (fun hHeld => ?_)
      refine wpAnyH_take (i := 0) (oi := ⟨_, _, _, _, _, _⟩) (v := ?vap549q1n0) rfl (by kernel_rfl) (by kernel_rfl) (by kernel_rfl) (fun _ _ _ h => h) (Or.inl ⟨by rfl, ?hap549q1n0⟩) (by assumption) ?_
      case hap549q1n0 => (intro w hSw; (try dsimp only at hSw); go_simp; try with_reducible rfl)
      try simp only [Act.put, List.setIfInBounds_toArray, List.set_cons_zero, List.set_cons_succ]
      refine wpAnyH_take (i := 1) (oi := ⟨_, _, _, _, _, _⟩) (v := ?vap549q2n1) rfl (by kernel_rfl) (by kernel_rfl) (by kernel_rfl) (fun _ _ _ h => h) (Or.inl ⟨by rfl, ?hap549q2n1⟩) (by assumption) ?_
      case hap549q2n1 => (intro w hSw; (try dsimp only at hSw); go_simp; try with_reducible rfl)
      try simp only [Act.put, List.setIfInBounds_toArray, List.set_cons_zero, List.set_cons_succ]
      refine wpAnyH_take (i := 3) (oi := ⟨_, _, _, _, _, _⟩) (v := ?vap549q3n3) rfl (by kernel_rfl) (by kernel_rfl) (by kernel_rfl) (fun _ _ _ h => h) (Or.inl ⟨by rfl, ?hap549q3n3⟩) (by assumption) ?_
      case hap549q3n3 => (intro w hSw; (try dsimp only at hSw); go_simp; try with_reducible rfl)
      try simp only [Act.put, List.setIfInBounds_toArray, List.set_cons_zero, List.set_cons_succ]
      refine wpAnyH_take (i := 4) (oi := ⟨_, _, _, _, _, _⟩) (v := ?vap549q4n4) rfl (by kernel_rfl) (by kernel_rfl) (by kernel_rfl) (fun _ _ _ h => h) (Or.inl ⟨by rfl, ?hap549q4n4⟩) (by assumption) ?_
      case hap549q4n4 => (intro w hSw; (try dsimp only at hSw); go_simp; try with_reducible rfl)
      try simp only [Act.put, List.setIfInBounds_toArray, List.set_cons_zero, List.set_cons_succ]
      refine wpAnyH_ready (rs := [2, 10]) (by kernel_rfl) (by simp) ?_
      refine AllReadyH.cons (o := ⟨_, _, _, _, _, _⟩) rfl (fun K hK => ?cp549q5n2) (AllReadyH.cons (o := ⟨_, _, _, _, _, _⟩) rfl (fun K hK => ?cp549q5n10) AllReadyH.nil)
      case cp549q5n2 =>
        go_simp
        go_at_call 53
        refine (turn_one s x y (by omega) hxb hyb n0 _ (blk_below HN0.out (show TwoC V _ _ _ _ _ _ _ from hHeld).2.2.2.2.2)).mono ?_
        rintro e w9 ⟨rfl, hb9⟩
        have hS9 := TwoC.keep hb9 L1.out L2.out hHeld
        try replace HK7 := Lib.hid (blk_below HK7.out hb9)
        refine hK.out _ _ (by exact hS9) (fun hHeld => ?_)
        clear hK K
        try simp only [Act.put, List.setIfInBounds_toArray, List.set_cons_zero, List.set_cons_succ]
        refine wpAnyH_ready (rs := [5, 10]) (by kernel_rfl) (by simp) ?_
        refine AllReadyH.cons (o := ⟨_, _, _, _, _, _⟩) rfl (fun K hK => ?cp549q6n5) (AllReadyH.cons (o := ⟨_, _, _, _, _, _⟩) rfl (fun K hK => ?cp549q6n10) AllReadyH.nil)
        case cp549q6n5 =>
          go_simp
          go_at_call 53
          refine (turn_one s x2 y2 (by omega) hxb2 hyb2 n0 _ (blk_below HN0.out (show TwoC V _ _ _ _ _ _ _ from hHeld).2.2.2.2.2)).mono ?_
          rintro e w9 ⟨rfl, hb9⟩
          have hS9 := TwoC.keep hb9 L1.out L2.out hHeld
          try replace HK7 := Lib.hid (blk_below HK7.out hb9)
          refine hK.out _ _ (by exact hS9) (fun hHeld => ?_)
          clear hK K
          try simp only [Act.put, List.setIfInBounds_toArray, List.set_cons_zero, List.set_cons_succ]
          refine wpAnyH_ready (rs := [6, 10]) (by kernel_rfl) (by simp) ?_
          refine AllReadyH.cons (o := ⟨_, _, _, _, _, _⟩) rfl (fun K hK => ?cp549q7n6) (AllReadyH.cons (o := ⟨_, _, _, _, _, _⟩) rfl (fun K hK => ?cp549q7n10) AllReadyH.nil)
          case cp549q7n6 =>
            go_simp
            go_at_call 68
            refine (HOV.out _).mono ?_
            rintro e w9 ⟨rfl, hb9⟩
            have hS9 := TwoC.keep hb9 L1.out L2.out hHeld
            try replace HK7 := Lib.hid (blk_below HK7.out hb9)
            refine hK.out _ _ (by exact hS9) (fun hHeld => ?_)
            clear hK K
            try simp only [Act.put, List.setIfInBounds_toArray, List.set_cons_zero, List.set_cons_succ]
            refine wpAnyH_take (i := 7) (oi := ⟨_, _, _, _, _, _⟩) (v := ?vap549q8n7) rfl (by kernel_rfl) (by kernel_rfl) (by kernel_rfl) (fun _ _ _ h => h) (Or.inl ⟨by rfl, ?hap549q8n7⟩) (by assumption) ?_
            case hap549q8n7 => (intro w hSw; (try dsimp only at hSw); go_simp; try with_reducible rfl)
            try simp only [Act.put, List.setIfInBounds_toArray, List.set_cons_zero, List.set_cons_succ]
            refine wpAnyH_take (i := 8) (oi := ⟨_, _, _, _, _, _⟩) (v := ?vap549q9n8) rfl (by kernel_rfl) (by kernel_rfl) (by kernel_rfl) (fun _ _ _ h => h) (Or.inl ⟨by rfl, ?hap549q9n8⟩) (by assumption) ?_
            case hap549q9n8 => (intro w hSw; (try dsimp only at hSw); go_simp; try with_reducible rfl)
            try simp only [Act.put, List.setIfInBounds_toArray, List.set_cons_zero, List.set_cons_succ]
            refine wpAnyH_take (i := 9) (oi := ⟨_, _, _, _, _, _⟩) (v := ?vap549q10n9) rfl (by kernel_rfl) (by kernel_rfl) (by kernel_rfl) (fun _ _ _ h => h) (Or.inl ⟨by rfl, ?hap549q10n9⟩) (by assumption) ?_
            case hap549q10n9 => (intro w hSw; (try dsimp only at hSw); go_simp; try with_reducible rfl)
            try simp only [Act.put, List.setIfInBounds_toArray, List.set_cons_zero, List.set_cons_succ]
            refine wpAnyH_ready (rs := [10]) (by kernel_rfl) (by simp) ?_
            refine AllReadyH.cons (o := ⟨_, _, _, _, _, _⟩) rfl (fun K hK => ?_) AllReadyH.nil
            have HIX := Lib.hid (show TwoC V _ _ _ _ _ _ _ from hHeld).2.2.2.2.1
            go_simp
            generalize hw7 : World.alloc _ _ = w7
            have hb9 := (alloc_blk hw7).2
            have HK7 := Lib.hid (alloc_blk hw7).1
            first
              | have hS9 := TwoC.keepB hb9 HIX.out L1.out L2.out hHeld
              | (have hS9 := TwoC.drew (TwoC.keepB hb9 (Nat.le_refl _) L1.out L2.out HS0.out); replace HK7 := Lib.hid (show w7.drew.heap[_]? = _ from HK7.out))
            clear hw7
            refine hK.out _ _ (by exact hS9) (fun hHeld => ?_)
            clear hK K
            try simp only [Act.put, List.setIfInBounds_toArray, List.set_cons_zero, List.set_cons_succ]
            refine wpAnyH_ready (rs := [11]) (by kernel_rfl) (by simp) ?_
            refine AllReadyH.cons (o := ⟨_, _, _, _, _, _⟩) rfl (fun K hK => ?_) AllReadyH.nil
            obtain ⟨z0, z1, z2⟩ := tri_cells HK7.out
            have z3 : ∀ o, World.frozen? _ ⟨_, o, none⟩ = false := fun o => blk_free HK7.out
            go_simp
            generalize hw8 : World.setCell _ _ (.bool _) = w8
            have hs8 := tri_set HK7.out hw8
            have HK8 := Lib.hid hs8.1
            have hS9 := TwoC.keepB hs8.2 HIX.out L1.out L2.out hHeld
            clear hw8 hs8 z0 z1 z2 z3
            refine hK.out _ _ (by exact hS9) (fun hHeld => ?_)
            clear hK K
            try simp only [Act.put, List.setIfInBounds_toArray, List.set_cons_zero, List.set_cons_succ]
            refine wpAnyH_take (i := 12) (oi := ⟨_, _, _, _, _, _⟩) (v := ?vap549q11n12) rfl (by kernel_rfl) (by kernel_rfl) (by kernel_rfl) (fun _ _ _ h => h) (Or.inl ⟨by rfl, ?hap549q11n12⟩) (by assumption) ?_
            case hap549q11n12 => (intro w hSw; (try dsimp only at hSw); go_simp; try with_reducible rfl)
            try simp only [Act.put, List.setIfInBounds_toArray, List.set_cons_zero, List.set_cons_succ]
            refine wpAnyH_done (by kernel_rfl) ?_ _
            have HA8 := Lib.hid (HAV.out.below (show TwoC V _ _ _ _ _ _ _ from hS9).2.2.2.2.2)
            obtain ⟨g0, g1, g2⟩ := tri_cells HK8.out
            go_wp2_with (at_builtin; refine wpList_push okDomino rfl _ _ rfl HA8.out rfl (nx, ny, nd) _ rfl _ rfl rfl (by omega) ?_; intro v10 w10 HA10 HG10)
            go_roundw
            case rel => exact ⟨k + 1, _, by omega, by go_num, rfl, by rw [HMV.out]; exact HA10⟩
            case measure => simp [intOf]; omega
          case cp549q7n10 =>
            have HIX := Lib.hid (show TwoC V _ _ _ _ _ _ _ from hHeld).2.2.2.2.1
            go_simp
            generalize hw7 : World.alloc _ _ = w7
            have hb9 := (alloc_blk hw7).2
            have HK7 := Lib.hid (alloc_blk hw7).1
            first
              | have hS9 := TwoC.keepB hb9 HIX.out L1.out L2.out hHeld
              | (have hS9 := TwoC.drew (TwoC.keepB hb9 (Nat.le_refl _) L1.out L2.out HS0.out); replace HK7 := Lib.hid (show w7.drew.heap[_]? = _ from HK7.out))
            clear hw7
            refine hK.out _ _ (by exact hS9) (fun hHeld => ?_)
            clear hK K
            try simp only [Act.put, List.setIfInBounds_toArray, List.set_cons_zero, List.set_cons_succ]
            refine wpAnyH_ready (rs := [6]) (by kernel_rfl) (by simp) ?_
            refine AllReadyH.cons (o := ⟨_, _, _, _, _, _⟩) rfl (fun K hK => ?_) AllReadyH.nil
            go_simp
            go_at_call 68
            refine (HOV.out _).mono ?_
            rintro e w9 ⟨rfl, hb9⟩
            have hS9 := TwoC.keep hb9 L1.out L2.out hHeld
            try replace HK7 := Lib.hid (blk_below HK7.out hb9)
            refine hK.out _ _ (by exact hS9) (fun hHeld => ?_)
            clear hK K
            try simp only [Act.put, List.setIfInBounds_toArray, List.set_cons_zero, List.set_cons_succ]
            refine wpAnyH_take (i := 7) (oi := ⟨_, _, _, _, _, _⟩) (v := ?vap549q12n7) rfl (by kernel_rfl) (by kernel_rfl) (by kernel_rfl) (fun _ _ _ h => h) (Or.inl ⟨by rfl, ?hap549q12n7⟩) (by assumption) ?_
            case hap549q12n7 => (intro w hSw; (try dsimp only at hSw); go_simp; try with_reducible rfl)
            try simp only [Act.put, List.setIfInBounds_toArray, List.set_cons_zero, List.set_cons_succ]
            refine wpAnyH_take (i := 8) (oi := ⟨_, _, _, _, _, _⟩) (v := ?vap549q13n8) rfl (by kernel_rfl) (by kernel_rfl) (by kernel_rfl) (fun _ _ _ h => h) (Or.inl ⟨by rfl, ?hap549q13n8⟩) (by assumption) ?_
            case hap549q13n8 => (intro w hSw; (try dsimp only at hSw); go_simp; try with_reducible rfl)
            try simp only [Act.put, List.setIfInBounds_toArray, List.set_cons_zero, List.set_cons_succ]
            refine wpAnyH_take (i := 9) (oi := ⟨_, _, _, _, _, _⟩) (v := ?vap549q14n9) rfl (by kernel_rfl) (by kernel_rfl) (by kernel_rfl) (fun _ _ _ h => h) (Or.inl ⟨by rfl, ?hap549q14n9⟩) (by assumption) ?_
            case hap549q14n9 => (intro w hSw; (try dsimp only at hSw); go_simp; try with_reducible rfl)
            try simp only [Act.put, List.setIfInBounds_toArray, List.set_cons_zero, List.set_cons_succ]
            refine wpAnyH_ready (rs := [11]) (by kernel_rfl) (by simp) ?_
            refine AllReadyH.cons (o := ⟨_, _, _, _, _, _⟩) rfl (fun K hK => ?_) AllReadyH.nil
            obtain ⟨z0, z1, z2⟩ := tri_cells HK7.out
            have z3 : ∀ o, World.frozen? _ ⟨_, o, none⟩ = false := fun o => blk_free HK7.out
            go_simp
            generalize hw8 : World.setCell _ _ (.bool _) = w8
            have hs8 := tri_set HK7.out hw8
            have HK8 := Lib.hid hs8.1
            have hS9 := TwoC.keepB hs8.2 HIX.out L1.out L2.out hHeld
            clear hw8 hs8 z0 z1 z2 z3
            refine hK.out _ _ (by exact hS9) (fun hHeld => ?_)
            clear hK K
            try simp only [Act.put, List.setIfInBounds_toArray, List.set_cons_zero, List.set_cons_succ]
            refine wpAnyH_take (i := 12) (oi := ⟨_, _, _, _, _, _⟩) (v := ?vap549q15n12) rfl (by kernel_rfl) (by kernel_rfl) (by kernel_rfl) (fun _ _ _ h => h) (Or.inl ⟨by rfl, ?hap549q15n12⟩) (by assumption) ?_
            case hap549q15n12 => (intro w hSw; (try dsimp only at hSw); go_simp; try with_reducible rfl)
            try simp only [Act.put, List.setIfInBounds_toArray, List.set_cons_zero, List.set_cons_succ]
            refine wpAnyH_done (by kernel_rfl) ?_ _
            have HA8 := Lib.hid (HAV.out.below (show TwoC V _ _ _ _ _ _ _ from hS9).2.2.2.2.2)
            obtain ⟨g0, g1, g2⟩ := tri_cells HK8.out
            go_wp2_with (at_builtin; refine wpList_push okDomino rfl _ _ rfl HA8.out rfl (nx, ny, nd) _ rfl _ rfl rfl (by omega) ?_; intro v10 w10 HA10 HG10)
            go_roundw
            case rel => exact ⟨k + 1, _, by omega, by go_num, rfl, by rw [HMV.out]; exact HA10⟩
            case measure => simp [intOf]; omega
        case cp549q6n10 =>
          have HIX := Lib.hid (show TwoC V _ _ _ _ _ _ _ from hHeld).2.2.2.2.1
          go_simp
          generalize hw7 : World.alloc _ _ = w7
          have hb9 := (alloc_blk hw7).2
          have HK7 := Lib.hid (alloc_blk hw7).1
          first
            | have hS9 := TwoC.keepB hb9 HIX.out L1.out L2.out hHeld
            | (have hS9 := TwoC.drew (TwoC.keepB hb9 (Nat.le_refl _) L1.out L2.out HS0.out); replace HK7 := Lib.hid (show w7.drew.heap[_]? = _ from HK7.out))
          clear hw7
          refine hK.out _ _ (by exact hS9) (fun hHeld => ?_)
          clear hK K
          try simp only [Act.put, List.setIfInBounds_toArray, List.set_cons_zero, List.set_cons_succ]
          refine wpAnyH_ready (rs := [5]) (by kernel_rfl) (by simp) ?_
          refine AllReadyH.cons (o := ⟨_, _, _, _, _, _⟩) rfl (fun K hK => ?_) AllReadyH.nil
          go_simp
          go_at_call 53
          refine (turn_one s x2 y2 (by omega) hxb2 hyb2 n0 _ (blk_below HN0.out (show TwoC V _ _ _ _ _ _ _ from hHeld).2.2.2.2.2)).mono ?_
          rintro e w9 ⟨rfl, hb9⟩
          have hS9 := TwoC.keep hb9 L1.out L2.out hHeld
          try replace HK7 := Lib.hid (blk_below HK7.out hb9)
          refine hK.out _ _ (by exact hS9) (fun hHeld => ?_)
          clear hK K
          try simp only [Act.put, List.setIfInBounds_toArray, List.set_cons_zero, List.set_cons_succ]
          refine wpAnyH_ready (rs := [6]) (by kernel_rfl) (by simp) ?_
          refine AllReadyH.cons (o := ⟨_, _, _, _, _, _⟩) rfl (fun K hK => ?_) AllReadyH.nil
          go_simp
          go_at_call 68
          refine (HOV.out _).mono ?_
          rintro e w9 ⟨rfl, hb9⟩
          have hS9 := TwoC.keep hb9 L1.out L2.out hHeld
          try replace HK7 := Lib.hid (blk_below HK7.out hb9)
          refine hK.out _ _ (by exact hS9) (fun hHeld => ?_)
          clear hK K
          try simp only [Act.put, List.setIfInBounds_toArray, List.set_cons_zero, List.set_cons_succ]
          refine wpAnyH_take (i := 7) (oi := ⟨_, _, _, _, _, _⟩) (v := ?vap549q16n7) rfl (by kernel_rfl) (by kernel_rfl) (by kernel_rfl) (fun _ _ _ h => h) (Or.inl ⟨by rfl, ?hap549q16n7⟩) (by assumption) ?_
          case hap549q16n7 => (intro w hSw; (try dsimp only at hSw); go_simp; try with_reducible rfl)
          try simp only [Act.put, List.setIfInBounds_toArray, List.set_cons_zero, List.set_cons_succ]
          refine wpAnyH_take (i := 8) (oi := ⟨_, _, _, _, _, _⟩) (v := ?vap549q17n8) rfl (by kernel_rfl) (by kernel_rfl) (by kernel_rfl) (fun _ _ _ h => h) (Or.inl ⟨by rfl, ?hap549q17n8⟩) (by assumption) ?_
          case hap549q17n8 => (intro w hSw; (try dsimp only at hSw); go_simp; try with_reducible rfl)
          try simp only [Act.put, List.setIfInBounds_toArray, List.set_cons_zero, List.set_cons_succ]
          refine wpAnyH_take (i := 9) (oi := ⟨_, _, _, _, _, _⟩) (v := ?vap549q18n9) rfl (by kernel_rfl) (by kernel_rfl) (by kernel_rfl) (fun _ _ _ h => h) (Or.inl ⟨by rfl, ?hap549q18n9⟩) (by assumption) ?_
          case hap549q18n9 => (intro w hSw; (try dsimp only at hSw); go_simp; try with_reducible rfl)
          try simp only [Act.put, List.setIfInBounds_toArray, List.set_cons_zero, List.set_cons_succ]
          refine wpAnyH_ready (rs := [11]) (by kernel_rfl) (by simp) ?_
          refine AllReadyH.cons (o := ⟨_, _, _, _, _, _⟩) rfl (fun K hK => ?_) AllReadyH.nil
          obtain ⟨z0, z1, z2⟩ := tri_cells HK7.out
          have z3 : ∀ o, World.frozen? _ ⟨_, o, none⟩ = false := fun o => blk_free HK7.out
          go_simp
          generalize hw8 : World.setCell _ _ (.bool _) = w8
          have hs8 := tri_set HK7.out hw8
          have HK8 := Lib.hid hs8.1
          have hS9 := TwoC.keepB hs8.2 HIX.out L1.out L2.out hHeld
          clear hw8 hs8 z0 z1 z2 z3
          refine hK.out _ _ (by exact hS9) (fun hHeld => ?_)
          clear hK K
          try simp only [Act.put, List.setIfInBounds_toArray, List.set_cons_zero, List.set_cons_succ]
          refine wpAnyH_take (i := 12) (oi := ⟨_, _, _, _, _, _⟩) (v := ?vap549q19n12) rfl (by kernel_rfl) (by kernel_rfl) (by kernel_rfl) (fun _ _ _ h => h) (Or.inl ⟨by rfl, ?hap549q19n12⟩) (by assumption) ?_
          case hap549q19n12 => (intro w hSw; (try dsimp only at hSw); go_simp; try with_reducible rfl)
          try simp only [Act.put, List.setIfInBounds_toArray, List.set_cons_zero, List.set_cons_succ]
          refine wpAnyH_done (by kernel_rfl) ?_ _
          have HA8 := Lib.hid (HAV.out.below (show TwoC V _ _ _ _ _ _ _ from hS9).2.2.2.2.2)
          obtain ⟨g0, g1, g2⟩ := tri_cells HK8.out
          go_wp2_with (at_builtin; refine wpList_push okDomino rfl _ _ rfl HA8.out rfl (nx, ny, nd) _ rfl _ rfl rfl (by omega) ?_; intro v10 w10 HA10 HG10)
          go_roundw
          case rel => exact ⟨k + 1, _, by omega, by go_num, rfl, by rw [HMV.out]; exact HA10⟩
          case measure => simp [intOf]; omega
      case cp549q5n10 =>
        have HIX := Lib.hid (show TwoC V _ _ _ _ _ _ _ from hHeld).2.2.2.2.1
        go_simp
        generalize hw7 : World.alloc _ _ = w7
        have hb9 := (alloc_blk hw7).2
        have HK7 := Lib.hid (alloc_blk hw7).1
        first
          | have hS9 := TwoC.keepB hb9 HIX.out L1.out L2.out hHeld
          | (have hS9 := TwoC.drew (TwoC.keepB hb9 (Nat.le_refl _) L1.out L2.out HS0.out); replace HK7 := Lib.hid (show w7.drew.heap[_]? = _ from HK7.out))
        clear hw7
        refine hK.out _ _ (by exact hS9) (fun hHeld => ?_)
        clear hK K
        try simp only [Act.put, List.setIfInBounds_toArray, List.set_cons_zero, List.set_cons_succ]
        refine wpAnyH_ready (rs := [2]) (by kernel_rfl) (by simp) ?_
        refine AllReadyH.cons (o := ⟨_, _, _, _, _, _⟩) rfl (fun K hK => ?_) AllReadyH.nil
        go_simp
        go_at_call 53
        refine (turn_one s x y (by omega) hxb hyb n0 _ (blk_below HN0.out (show TwoC V _ _ _ _ _ _ _ from hHeld).2.2.2.2.2)).mono ?_
        rintro e w9 ⟨rfl, hb9⟩
        have hS9 := TwoC.keep hb9 L1.out L2.out hHeld
        try replace HK7 := Lib.hid (blk_below HK7.out hb9)
        refine hK.out _ _ (by exact hS9) (fun hHeld => ?_)
        clear hK K
        try simp only [Act.put, List.setIfInBounds_toArray, List.set_cons_zero, List.set_cons_succ]
        refine wpAnyH_ready (rs := [5]) (by kernel_rfl) (by simp) ?_
        refine AllReadyH.cons (o := ⟨_, _, _, _, _, _⟩) rfl (fun K hK => ?_) AllReadyH.nil
        go_simp
        go_at_call 53
        refine (turn_one s x2 y2 (by omega) hxb2 hyb2 n0 _ (blk_below HN0.out (show TwoC V _ _ _ _ _ _ _ from hHeld).2.2.2.2.2)).mono ?_
        rintro e w9 ⟨rfl, hb9⟩
        have hS9 := TwoC.keep hb9 L1.out L2.out hHeld
        try replace HK7 := Lib.hid (blk_below HK7.out hb9)
        refine hK.out _ _ (by exact hS9) (fun hHeld => ?_)
        clear hK K
        try simp only [Act.put, List.setIfInBounds_toArray, List.set_cons_zero, List.set_cons_succ]
        refine wpAnyH_ready (rs := [6]) (by kernel_rfl) (by simp) ?_
        refine AllReadyH.cons (o := ⟨_, _, _, _, _, _⟩) rfl (fun K hK => ?_) AllReadyH.nil
        go_simp
        go_at_call 68
        refine (HOV.out _).mono ?_
        rintro e w9 ⟨rfl, hb9⟩
        have hS9 := TwoC.keep hb9 L1.out L2.out hHeld
        try replace HK7 := Lib.hid (blk_below HK7.out hb9)
        refine hK.out _ _ (by exact hS9) (fun hHeld => ?_)
        clear hK K
        try simp only [Act.put, List.setIfInBounds_toArray, List.set_cons_zero, List.set_cons_succ]
        refine wpAnyH_take (i := 7) (oi := ⟨_, _, _, _, _, _⟩) (v := ?vap549q20n7) rfl (by kernel_rfl) (by kernel_rfl) (by kernel_rfl) (fun _ _ _ h => h) (Or.inl ⟨by rfl, ?hap549q20n7⟩) (by assumption) ?_
        case hap549q20n7 => (intro w hSw; (try dsimp only at hSw); go_simp; try with_reducible rfl)
        try simp only [Act.put, List.setIfInBounds_toArray, List.set_cons_zero, List.set_cons_succ]
        refine wpAnyH_take (i := 8) (oi := ⟨_, _, _, _, _, _⟩) (v := ?vap549q21n8) rfl (by kernel_rfl) (by kernel_rfl) (by kernel_rfl) (fun _ _ _ h => h) (Or.inl ⟨by rfl, ?hap549q21n8⟩) (by assumption) ?_
        case hap549q21n8 => (intro w hSw; (try dsimp only at hSw); go_simp; try with_reducible rfl)
        try simp only [Act.put, List.setIfInBounds_toArray, List.set_cons_zero, List.set_cons_succ]
        refine wpAnyH_take (i := 9) (oi := ⟨_, _, _, _, _, _⟩) (v := ?vap549q22n9) rfl (by kernel_rfl) (by kernel_rfl) (by kernel_rfl) (fun _ _ _ h => h) (Or.inl ⟨by rfl, ?hap549q22n9⟩) (by assumption) ?_
        case hap549q22n9 => (intro w hSw; (try dsimp only at hSw); go_simp; try with_reducible rfl)
        try simp only [Act.put, List.setIfInBounds_toArray, List.set_cons_zero, List.set_cons_succ]
        refine wpAnyH_ready (rs := [11]) (by kernel_rfl) (by simp) ?_
        refine AllReadyH.cons (o := ⟨_, _, _, _, _, _⟩) rfl (fun K hK => ?_) AllReadyH.nil
        obtain ⟨z0, z1, z2⟩ := tri_cells HK7.out
        have z3 : ∀ o, World.frozen? _ ⟨_, o, none⟩ = false := fun o => blk_free HK7.out
        go_simp
        generalize hw8 : World.setCell _ _ (.bool _) = w8
        have hs8 := tri_set HK7.out hw8
        have HK8 := Lib.hid hs8.1
        have hS9 := TwoC.keepB hs8.2 HIX.out L1.out L2.out hHeld
        clear hw8 hs8 z0 z1 z2 z3
        refine hK.out _ _ (by exact hS9) (fun hHeld => ?_)
        clear hK K
        try simp only [Act.put, List.setIfInBounds_toArray, List.set_cons_zero, List.set_cons_succ]
        refine wpAnyH_take (i := 12) (oi := ⟨_, _, _, _, _, _⟩) (v := ?vap549q23n12) rfl (by kernel_rfl) (by kernel_rfl) (by kernel_rfl) (fun _ _ _ h => h) (Or.inl ⟨by rfl, ?hap549q23n12⟩) (by assumption) ?_
        case hap549q23n12 => (intro w hSw; (try dsimp only at hSw); go_simp; try with_reducible rfl)
        try simp only [Act.put, List.setIfInBounds_toArray, List.set_cons_zero, List.set_cons_succ]
        refine wpAnyH_done (by kernel_rfl) ?_ _
        have HA8 := Lib.hid (HAV.out.below (show TwoC V _ _ _ _ _ _ _ from hS9).2.2.2.2.2)
        obtain ⟨g0, g1, g2⟩ := tri_cells HK8.out
        go_wp2_with (at_builtin; refine wpList_push okDomino rfl _ _ rfl HA8.out rfl (nx, ny, nd) _ rfl _ rfl rfl (by omega) ?_; intro v10 w10 HA10 HG10)
        go_roundw
        case rel => exact ⟨k + 1, _, by omega, by go_num, rfl, by rw [HMV.out]; exact HA10⟩
        case measure => simp [intOf]; omega
    · obtain rfl : k = ls.length := by omega
      have ht : decide ((ls.length : Int) < (ls.length : Int)) = false := by simp
      have HRD := Lib.hid (HA.out.1.rd okDomino)
      have HML := Lib.hid hml
      clear hml
      have HBA := Lib.hid HA.out.2.1
      go_wp2_with fail
      refine (SortDominoes_any _ (mv ls.length) _ _ HRD.out (Nat.le_refl _)).mono ?_
      rintro e w9 ⟨u9, rfl, ho9, hb9⟩
      have ho9 : OwnF elDomino w9 wr.heap.size u9 (sortI (mv ls.length) ls.length) := by rw [HML.out] at ho9; exact ho9
      have HO9 := Lib.hid (ho9.mono HBA.out.size)
      have HB9 := Lib.hid (HBA.out.trans (hb9.mono HBA.out.size))
      clear ho9 hb9
      go_wp2_with fail
      exact bodyPost_ret (v := .tuple #[u9, .bool true]) (by simp [results, Tryd.results51, go_sem]) rfl ⟨_, rfl, HO9.out, HB9.out⟩
end Go.Proofs.YtehnbalbpfmijaaDoor

namespace Go.Proofs.YtehnbalbpfmijaaDoor
open Go.RowKit
set_option linter.unusedVariables false

set_option maxRecDepth 100000 in
set_option maxHeartbeats 8000000 in
theorem moved_mirror (s : Nat) (v : Value) (ls : List Lk) (n0 : Nat) (B : Nat) (w : World) (h : RdF elDomino w B v ls) (hB : B ≤ w.heap.size) (hn : w.heap[n0]? = some (.cells #[.int .i64 (s : Int)] 3 (0, 0))) (hf : fltB s s ls = true) :
    Calls Tryd.prog 51 #[.int .i64 (s : Int), v, .func (.func 52) #[] #[.pointer (some ⟨n0, 0, none⟩)]] w (RetTiling w true (movZ false s ls)) := by
  have HZ : Hid (movZ false s ls = sortI (movTo false s ls ls.length) ls.length) := by unfold Hid movZ; rw [hf]; rfl
  rw [HZ.out]
  obtain ⟨hs1, hs2, ht⟩ := fltB_nat hf
  have hls := tile_short hs2 ht
  have HIN := Lib.hid (fun k (hk : k < ls.length) => tile_in hs2 ht hk)
  have HLEN := Lib.hid (movTo_len false (s : Int) ls)
  have HMS : Hid (∀ k, movTo false (s : Int) ls (k + 1) = movTo false (s : Int) ls k ++ [movL false (s : Int) (dAt ls k)]) := fun k => rfl
  have HM0 : Hid (movTo false (s : Int) ls 0 = []) := rfl
  obtain ⟨mv, HMV0⟩ : ∃ mv, Hid (mv = movTo false (s : Int) ls) := ⟨_, rfl⟩
  rw [← HMV0.out] at HMS HM0 HLEN ⊢
  have HV := Lib.hid h
  obtain ⟨A, c, rfl, g1, g2, G3⟩ := RdT.of (E := elDomino) rfl (fun _ => rfl) h
  unfold maxLen at g2
  have t1 : inB (s : Int) 1 8 = true := inB_true (by omega) (by omega)
  have hok := rectZ_ok s s hs2 hs2
  have HT : Hid (tileB (setZ (rectZ s s)) ls = true) := by unfold Hid; rw [tile_eq (setZ_lt hok)]; exact ht
  have HOK := Lib.hid hok
  have HN := Lib.hid hn
  clear hok ht h hf HMV0 HZ hn
  go_enter Tryd.func51, Tryd.ntmps51
  go_wp2_with fail
  refine (within_any _ _ _ _).mono ?_
  rintro e w' ⟨rfl, rfl⟩
  rw [t1]
  go_wp2_with fail
  refine (Rectangle_yes s s ⟨hs1, hs2⟩ ⟨hs1, hs2⟩ _).mono ?_
  rintro e w1 ⟨u1, rfl, hr1, hb1⟩
  have HR1 := Lib.hid hr1
  have HB1 := Lib.hid hb1
  clear hb1 hr1
  go_wp2_with fail
  refine (IsTiling_yes _ _ _ ls _ _ HR1.out ((HV.out.below (HB1.out.mono hB)).more (Nat.le_trans hB HB1.out.size)) (Nat.le_refl _) HOK.out).mono ?_
  rintro e w2 ⟨rfl, hb2⟩
  rw [HT.out]
  have HB2 := Lib.hid (HB1.out.trans (hb2.mono HB1.out.size))
  clear hb2
  have HA0 : Hid (Acc elDomino w w.heap.size (w2.alloc (.cells #[] 39)) (.slice (some ⟨w2.heap.size, 0, none⟩) 0 0) []) := by
    have := Acc.startAt (E := elDomino) HB2.out (Nat.le_refl _) HB2.out.size
    exact this
  go_wp2_with fail
  go_loopw [8, 29] (fun o i wr => ∃ (k : Nat) (u : Value), k ≤ ls.length ∧ i = .int .i64 (k : Int) ∧ u = o ∧ Hid (Acc elDomino w w.heap.size wr u (mv k))) (fun _ i _ => ls.length - (intOf i).toNat)
  case atStart => exact ⟨0, _, Nat.zero_le _, rfl, rfl, by rw [HM0.out]; exact HA0⟩
  case round =>
    obtain ⟨k, u, hk, rfl, rfl, HA⟩ := hrel
    obtain ⟨A1, ca, hv, q1, q2, _⟩ := HA.out.1.rd okDomino
    have hml := HLEN.out k
    rw [hml] at hv q1
    subst hv
    unfold maxLen at q2
    by_cases hlt : k < ls.length
    · have ht : decide ((k : Int) < (ls.length : Int)) = true := by simp only [decide_eq_true_eq]; omega
      obtain ⟨ad, rfl, hbl, hx, hy, hz⟩ := G3.out k hlt
      have hbl2 : (ad.add (k * 3)).block < w.heap.size := by rw [addBlock]; omega
      have hbw := HA.out.2.1
      have hx' := (hbw.cell (p := ad.add (k * 3)) hbl2).trans hx
      have hy' := (hbw.cell (p := ⟨(ad.add (k * 3)).block, (ad.add (k * 3)).off + 1, none⟩) hbl2).trans hy
      have hz' := (hbw.cell (p := ⟨(ad.add (k * 3)).block, (ad.add (k * 3)).off + 2, none⟩) hbl2).trans hz
      obtain ⟨hd, hxb, hyb, hxb2, hyb2⟩ := HIN.out k hlt
      have hnx := snd_next hd
      have HMK : Hid (mv (k + 1) = mv k ++ [overL (mapC false s (lx ls k) (ly ls k)).1 (mapC false s (lx ls k) (ly ls k)).2 (mapC false s (sndX (lx ls k) (ld ls k)) (sndY (ly ls k) (ld ls k))).1 (mapC false s (sndX (lx ls k) (ld ls k)) (sndY (ly ls k) (ld ls k))).2]) := HMS.out k
      have HOV0 := Lib.hid (fun V => DominoOver_yes _ _ _ _ (next_mov false hs2 hxb hyb hxb2 hyb2 hnx) V)
      have HEN := Lib.hid (fun V => ends_any (lx ls k) (ly ls k) (ld ls k) V)
      have hk0 : (0 : Int) ≤ (k : Int) := by omega
      have hk1 : (k : Int) < (ls.length : Int) := by omega
      generalize sndX (lx ls k) (ld ls k) = x2 at *
      generalize sndY (ly ls k) (ld ls k) = y2 at *
      generalize lx ls k = x at *
      generalize ly ls k = y at *
      generalize ld ls k = d at *
      obtain ⟨nx, ny, nd, HON⟩ : ∃ nx ny nd, Hid (overL (mapC false s x y).1 (mapC false s x y).2 (mapC false s x2 y2).1 (mapC false s x2 y2).2 = (nx, ny, nd)) := ⟨_, _, _, rfl⟩
      have HMV : Hid (mv (k + 1) = mv k ++ [(nx, ny, nd)]) := by unfold Hid; rw [HMK.out, HON.out]
      have HOV : Hid (∀ V, Calls Tryd.prog 68 #[spotV (mapC false s x y).1 (mapC false s x y).2, spotV (mapC false s x2 y2).1 (mapC false s x2 y2).2] V fun e w' => e = .returned (.tuple #[triV nx ny nd, .bool true]) ∧ Below V.heap.size V w') := by
        have h9 := HOV0.out
        rw [HON.out] at h9
        exact h9
      have hm32 : (mv k).length ≤ 32 := by rw [hml]; omega
      generalize mv k = ys at *
      clear hx hy hz hbw HMK HOV0 HON hnx hd hml
      go_wp2_with fail
      obtain ⟨V0, hV0, k9, hbV0⟩ := one_alloc wr (triO x y d 39)
      rw [← hV0]
      obtain ⟨f0, f1, f2⟩ := tri_cells k9
      have HAV0 := Lib.hid (HA.out.below hbV0)
      clear hV0 k9 hbV0 hx' hy' hz'
      go_wp2_with fail
      refine (HEN.out _).mono ?_
      rintro e w3 ⟨rfl, hb3⟩
      have HA3 := Lib.hid (HAV0.out.below hb3)
      clear f0 f1 f2 hb3
      go_wp2_with fail
      obtain ⟨V, hV, k1, k2, hbV⟩ := two_alloc w3 (.cells #[.int .i64 x, .int .i64 y] 41) (.cells #[.int .i64 x2, .int .i64 y2] 41)
      rw [← hV]
      have HAV := Lib.hid (HA3.out.below hbV)
      have HN0 := Lib.hid (blk_below HN.out HAV.out.2.1)
      have HS0 : Hid (TwoC V V w3.heap.size (w3.heap.size + 1) x y x2 y2) := ⟨by rw [blk_cell k1]; rfl, by rw [blk_cell k1]; rfl, by rw [blk_cell k2]; rfl, by rw [blk_cell k2]; rfl, Nat.le_refl _, Below.refl _ _⟩
      have L1 := Lib.hid (lt_of_block k1)
      have L2 := Lib.hid (lt_of_block k2)
      clear hV k1 k2 hbV
      refine wp_region_held_drew (S := fun w' => TwoC V w' w3.heap.size (w3.heap.size + 1) x y x2 y2) (by kernel_rfl) (by exact HS0.out.drew) (fun hHeld => ?_)
      refine wpAnyH_take (i := 0) (oi := ⟨_, _, _, _, _, _⟩) (v := ?vap1785q1n0) rfl (by kernel_rfl) (by kernel_rfl) (by kernel_rfl) (fun _ _ _ h => h) (Or.inl ⟨by rfl, ?hap1785q1n0⟩) (by assumption) ?_
      case hap1785q1n0 => (intro w hSw; (try dsimp only at hSw); go_simp; try with_reducible rfl)
      try simp only [Act.put, List.setIfInBounds_toArray, List.set_cons_zero, List.set_cons_succ]
      refine wpAnyH_take (i := 1) (oi := ⟨_, _, _, _, _, _⟩) (v := ?vap1785q2n1) rfl (by kernel_rfl) (by kernel_rfl) (by kernel_rfl) (fun _ _ _ h => h) (Or.inl ⟨by rfl, ?hap1785q2n1⟩) (by assumption) ?_
      case hap1785q2n1 => (intro w hSw; (try dsimp only at hSw); go_simp; try with_reducible rfl)
      try simp only [Act.put, List.setIfInBounds_toArray, List.set_cons_zero, List.set_cons_succ]
      refine wpAnyH_take (i := 3) (oi := ⟨_, _, _, _, _, _⟩) (v := ?vap1785q3n3) rfl (by kernel_rfl) (by kernel_rfl) (by kernel_rfl) (fun _ _ _ h => h) (Or.inl ⟨by rfl, ?hap1785q3n3⟩) (by assumption) ?_
      case hap1785q3n3 => (intro w hSw; (try dsimp only at hSw); go_simp; try with_reducible rfl)
      try simp only [Act.put, List.setIfInBounds_toArray, List.set_cons_zero, List.set_cons_succ]
      refine wpAnyH_take (i := 4) (oi := ⟨_, _, _, _, _, _⟩) (v := ?vap1785q4n4) rfl (by kernel_rfl) (by kernel_rfl) (by kernel_rfl) (fun _ _ _ h => h) (Or.inl ⟨by rfl, ?hap1785q4n4⟩) (by assumption) ?_
      case hap1785q4n4 => (intro w hSw; (try dsimp only at hSw); go_simp; try with_reducible rfl)
      try simp only [Act.put, List.setIfInBounds_toArray, List.set_cons_zero, List.set_cons_succ]
      refine wpAnyH_ready (rs := [2, 10]) (by kernel_rfl) (by simp) ?_
      refine AllReadyH.cons (o := ⟨_, _, _, _, _, _⟩) rfl (fun K hK => ?cp1785q5n2) (AllReadyH.cons (o := ⟨_, _, _, _, _, _⟩) rfl (fun K hK => ?cp1785q5n10) AllReadyH.nil)
      case cp1785q5n2 =>
        go_simp
        go_at_call 52
        refine (mirror_one s x y (by omega) hxb hyb n0 _ (blk_below HN0.out (show TwoC V _ _ _ _ _ _ _ from hHeld).2.2.2.2.2)).mono ?_
        rintro e w9 ⟨rfl, hb9⟩
        have hS9 := TwoC.keep hb9 L1.out L2.out hHeld
        try replace HK7 := Lib.hid (blk_below HK7.out hb9)
        refine hK.out _ _ (by exact hS9) (fun hHeld => ?_)
        clear hK K
        try simp only [Act.put, List.setIfInBounds_toArray, List.set_cons_zero, List.set_cons_succ]
        refine wpAnyH_ready (rs := [5, 10]) (by kernel_rfl) (by simp) ?_
        refine AllReadyH.cons (o := ⟨_, _, _, _, _, _⟩) rfl (fun K hK => ?cp1785q6n5) (AllReadyH.cons (o := ⟨_, _, _, _, _, _⟩) rfl (fun K hK => ?cp1785q6n10) AllReadyH.nil)
        case cp1785q6n5 =>
          go_simp
          go_at_call 52
          refine (mirror_one s x2 y2 (by omega) hxb2 hyb2 n0 _ (blk_below HN0.out (show TwoC V _ _ _ _ _ _ _ from hHeld).2.2.2.2.2)).mono ?_
          rintro e w9 ⟨rfl, hb9⟩
          have hS9 := TwoC.keep hb9 L1.out L2.out hHeld
          try replace HK7 := Lib.hid (blk_below HK7.out hb9)
          refine hK.out _ _ (by exact hS9) (fun hHeld => ?_)
          clear hK K
          try simp only [Act.put, List.setIfInBounds_toArray, List.set_cons_zero, List.set_cons_succ]
          refine wpAnyH_ready (rs := [6, 10]) (by kernel_rfl) (by simp) ?_
          refine AllReadyH.cons (o := ⟨_, _, _, _, _, _⟩) rfl (fun K hK => ?cp1785q7n6) (AllReadyH.cons (o := ⟨_, _, _, _, _, _⟩) rfl (fun K hK => ?cp1785q7n10) AllReadyH.nil)
          case cp1785q7n6 =>
            go_simp
            go_at_call 68
            refine (HOV.out _).mono ?_
            rintro e w9 ⟨rfl, hb9⟩
            have hS9 := TwoC.keep hb9 L1.out L2.out hHeld
            try replace HK7 := Lib.hid (blk_below HK7.out hb9)
            refine hK.out _ _ (by exact hS9) (fun hHeld => ?_)
            clear hK K
            try simp only [Act.put, List.setIfInBounds_toArray, List.set_cons_zero, List.set_cons_succ]
            refine wpAnyH_take (i := 7) (oi := ⟨_, _, _, _, _, _⟩) (v := ?vap1785q8n7) rfl (by kernel_rfl) (by kernel_rfl) (by kernel_rfl) (fun _ _ _ h => h) (Or.inl ⟨by rfl, ?hap1785q8n7⟩) (by assumption) ?_
            case hap1785q8n7 => (intro w hSw; (try dsimp only at hSw); go_simp; try with_reducible rfl)
            try simp only [Act.put, List.setIfInBounds_toArray, List.set_cons_zero, List.set_cons_succ]
            refine wpAnyH_take (i := 8) (oi := ⟨_, _, _, _, _, _⟩) (v := ?vap1785q9n8) rfl (by kernel_rfl) (by kernel_rfl) (by kernel_rfl) (fun _ _ _ h => h) (Or.inl ⟨by rfl, ?hap1785q9n8⟩) (by assumption) ?_
            case hap1785q9n8 => (intro w hSw; (try dsimp only at hSw); go_simp; try with_reducible rfl)
            try simp only [Act.put, List.setIfInBounds_toArray, List.set_cons_zero, List.set_cons_succ]
            refine wpAnyH_take (i := 9) (oi := ⟨_, _, _, _, _, _⟩) (v := ?vap1785q10n9) rfl (by kernel_rfl) (by kernel_rfl) (by kernel_rfl) (fun _ _ _ h => h) (Or.inl ⟨by rfl, ?hap1785q10n9⟩) (by assumption) ?_
            case hap1785q10n9 => (intro w hSw; (try dsimp only at hSw); go_simp; try with_reducible rfl)
            try simp only [Act.put, List.setIfInBounds_toArray, List.set_cons_zero, List.set_cons_succ]
            refine wpAnyH_ready (rs := [10]) (by kernel_rfl) (by simp) ?_
            refine AllReadyH.cons (o := ⟨_, _, _, _, _, _⟩) rfl (fun K hK => ?_) AllReadyH.nil
            have HIX := Lib.hid (show TwoC V _ _ _ _ _ _ _ from hHeld).2.2.2.2.1
            go_simp
            generalize hw7 : World.alloc _ _ = w7
            have hb9 := (alloc_blk hw7).2
            have HK7 := Lib.hid (alloc_blk hw7).1
            first
              | have hS9 := TwoC.keepB hb9 HIX.out L1.out L2.out hHeld
              | (have hS9 := TwoC.drew (TwoC.keepB hb9 (Nat.le_refl _) L1.out L2.out HS0.out); replace HK7 := Lib.hid (show w7.drew.heap[_]? = _ from HK7.out))
            clear hw7
            refine hK.out _ _ (by exact hS9) (fun hHeld => ?_)
            clear hK K
            try simp only [Act.put, List.setIfInBounds_toArray, List.set_cons_zero, List.set_cons_succ]
            refine wpAnyH_ready (rs := [11]) (by kernel_rfl) (by simp) ?_
            refine AllReadyH.cons (o := ⟨_, _, _, _, _, _⟩) rfl (fun K hK => ?_) AllReadyH.nil
            obtain ⟨z0, z1, z2⟩ := tri_cells HK7.out
            have z3 : ∀ o, World.frozen? _ ⟨_, o, none⟩ = false := fun o => blk_free HK7.out
            go_simp
            generalize hw8 : World.setCell _ _ (.bool _) = w8
            have hs8 := tri_set HK7.out hw8
            have HK8 := Lib.hid hs8.1
            have hS9 := TwoC.keepB hs8.2 HIX.out L1.out L2.out hHeld
            clear hw8 hs8 z0 z1 z2 z3
            refine hK.out _ _ (by exact hS9) (fun hHeld => ?_)
            clear hK K
            try simp only [Act.put, List.setIfInBounds_toArray, List.set_cons_zero, List.set_cons_succ]
            refine wpAnyH_take (i := 12) (oi := ⟨_, _, _, _, _, _⟩) (v := ?vap1785q11n12) rfl (by kernel_rfl) (by kernel_rfl) (by kernel_rfl) (fun _ _ _ h => h) (Or.inl ⟨by rfl, ?hap1785q11n12⟩) (by assumption) ?_
            case hap1785q11n12 => (intro w hSw; (try dsimp only at hSw); go_simp; try with_reducible rfl)
            try simp only [Act.put, List.setIfInBounds_toArray, List.set_cons_zero, List.set_cons_succ]
            refine wpAnyH_done (by kernel_rfl) ?_ _
            have HA8 := Lib.hid (HAV.out.below (show TwoC V _ _ _ _ _ _ _ from hS9).2.2.2.2.2)
            obtain ⟨g0, g1, g2⟩ := tri_cells HK8.out
            go_wp2_with (at_builtin; refine wpList_push okDomino rfl _ _ rfl HA8.out rfl (nx, ny, nd) _ rfl _ rfl rfl (by omega) ?_; intro v10 w10 HA10 HG10)
            go_roundw
            case rel => exact ⟨k + 1, _, by omega, by go_num, rfl, by rw [HMV.out]; exact HA10⟩
            case measure => simp [intOf]; omega
          case cp1785q7n10 =>
            have HIX := Lib.hid (show TwoC V _ _ _ _ _ _ _ from hHeld).2.2.2.2.1
            go_simp
            generalize hw7 : World.alloc _ _ = w7
            have hb9 := (alloc_blk hw7).2
            have HK7 := Lib.hid (alloc_blk hw7).1
            first
              | have hS9 := TwoC.keepB hb9 HIX.out L1.out L2.out hHeld
              | (have hS9 := TwoC.drew (TwoC.keepB hb9 (Nat.le_refl _) L1.out L2.out HS0.out); replace HK7 := Lib.hid (show w7.drew.heap[_]? = _ from HK7.out))
            clear hw7
            refine hK.out _ _ (by exact hS9) (fun hHeld => ?_)
            clear hK K
            try simp only [Act.put, List.setIfInBounds_toArray, List.set_cons_zero, List.set_cons_succ]
            refine wpAnyH_ready (rs := [6]) (by kernel_rfl) (by simp) ?_
            refine AllReadyH.cons (o := ⟨_, _, _, _, _, _⟩) rfl (fun K hK => ?_) AllReadyH.nil
            go_simp
            go_at_call 68
            refine (HOV.out _).mono ?_
            rintro e w9 ⟨rfl, hb9⟩
            have hS9 := TwoC.keep hb9 L1.out L2.out hHeld
            try replace HK7 := Lib.hid (blk_below HK7.out hb9)
            refine hK.out _ _ (by exact hS9) (fun hHeld => ?_)
            clear hK K
            try simp only [Act.put, List.setIfInBounds_toArray, List.set_cons_zero, List.set_cons_succ]
            refine wpAnyH_take (i := 7) (oi := ⟨_, _, _, _, _, _⟩) (v := ?vap1785q12n7) rfl (by kernel_rfl) (by kernel_rfl) (by kernel_rfl) (fun _ _ _ h => h) (Or.inl ⟨by rfl, ?hap1785q12n7⟩) (by assumption) ?_
            case hap1785q12n7 => (intro w hSw; (try dsimp only at hSw); go_simp; try with_reducible rfl)
            try simp only [Act.put, List.setIfInBounds_toArray, List.set_cons_zero, List.set_cons_succ]
            refine wpAnyH_take (i := 8) (oi := ⟨_, _, _, _, _, _⟩) (v := ?vap1785q13n8) rfl (by kernel_rfl) (by kernel_rfl) (by kernel_rfl) (fun _ _ _ h => h) (Or.inl ⟨by rfl, ?hap1785q13n8⟩) (by assumption) ?_
            case hap1785q13n8 => (intro w hSw; (try dsimp only at hSw); go_simp; try with_reducible rfl)
            try simp only [Act.put, List.setIfInBounds_toArray, List.set_cons_zero, List.set_cons_succ]
            refine wpAnyH_take (i := 9) (oi := ⟨_, _, _, _, _, _⟩) (v := ?vap1785q14n9) rfl (by kernel_rfl) (by kernel_rfl) (by kernel_rfl) (fun _ _ _ h => h) (Or.inl ⟨by rfl, ?hap1785q14n9⟩) (by assumption) ?_
            case hap1785q14n9 => (intro w hSw; (try dsimp only at hSw); go_simp; try with_reducible rfl)
            try simp only [Act.put, List.setIfInBounds_toArray, List.set_cons_zero, List.set_cons_succ]
            refine wpAnyH_ready (rs := [11]) (by kernel_rfl) (by simp) ?_
            refine AllReadyH.cons (o := ⟨_, _, _, _, _, _⟩) rfl (fun K hK => ?_) AllReadyH.nil
            obtain ⟨z0, z1, z2⟩ := tri_cells HK7.out
            have z3 : ∀ o, World.frozen? _ ⟨_, o, none⟩ = false := fun o => blk_free HK7.out
            go_simp
            generalize hw8 : World.setCell _ _ (.bool _) = w8
            have hs8 := tri_set HK7.out hw8
            have HK8 := Lib.hid hs8.1
            have hS9 := TwoC.keepB hs8.2 HIX.out L1.out L2.out hHeld
            clear hw8 hs8 z0 z1 z2 z3
            refine hK.out _ _ (by exact hS9) (fun hHeld => ?_)
            clear hK K
            try simp only [Act.put, List.setIfInBounds_toArray, List.set_cons_zero, List.set_cons_succ]
            refine wpAnyH_take (i := 12) (oi := ⟨_, _, _, _, _, _⟩) (v := ?vap1785q15n12) rfl (by kernel_rfl) (by kernel_rfl) (by kernel_rfl) (fun _ _ _ h => h) (Or.inl ⟨by rfl, ?hap1785q15n12⟩) (by assumption) ?_
            case hap1785q15n12 => (intro w hSw; (try dsimp only at hSw); go_simp; try with_reducible rfl)
            try simp only [Act.put, List.setIfInBounds_toArray, List.set_cons_zero, List.set_cons_succ]
            refine wpAnyH_done (by kernel_rfl) ?_ _
            have HA8 := Lib.hid (HAV.out.below (show TwoC V _ _ _ _ _ _ _ from hS9).2.2.2.2.2)
            obtain ⟨g0, g1, g2⟩ := tri_cells HK8.out
            go_wp2_with (at_builtin; refine wpList_push okDomino rfl _ _ rfl HA8.out rfl (nx, ny, nd) _ rfl _ rfl rfl (by omega) ?_; intro v10 w10 HA10 HG10)
            go_roundw
            case rel => exact ⟨k + 1, _, by omega, by go_num, rfl, by rw [HMV.out]; exact HA10⟩
            case measure => simp [intOf]; omega
        case cp1785q6n10 =>
          have HIX := Lib.hid (show TwoC V _ _ _ _ _ _ _ from hHeld).2.2.2.2.1
          go_simp
          generalize hw7 : World.alloc _ _ = w7
          have hb9 := (alloc_blk hw7).2
          have HK7 := Lib.hid (alloc_blk hw7).1
          first
            | have hS9 := TwoC.keepB hb9 HIX.out L1.out L2.out hHeld
            | (have hS9 := TwoC.drew (TwoC.keepB hb9 (Nat.le_refl _) L1.out L2.out HS0.out); replace HK7 := Lib.hid (show w7.drew.heap[_]? = _ from HK7.out))
          clear hw7
          refine hK.out _ _ (by exact hS9) (fun hHeld => ?_)
          clear hK K
          try simp only [Act.put, List.setIfInBounds_toArray, List.set_cons_zero, List.set_cons_succ]
          refine wpAnyH_ready (rs := [5]) (by kernel_rfl) (by simp) ?_
          refine AllReadyH.cons (o := ⟨_, _, _, _, _, _⟩) rfl (fun K hK => ?_) AllReadyH.nil
          go_simp
          go_at_call 52
          refine (mirror_one s x2 y2 (by omega) hxb2 hyb2 n0 _ (blk_below HN0.out (show TwoC V _ _ _ _ _ _ _ from hHeld).2.2.2.2.2)).mono ?_
          rintro e w9 ⟨rfl, hb9⟩
          have hS9 := TwoC.keep hb9 L1.out L2.out hHeld
          try replace HK7 := Lib.hid (blk_below HK7.out hb9)
          refine hK.out _ _ (by exact hS9) (fun hHeld => ?_)
          clear hK K
          try simp only [Act.put, List.setIfInBounds_toArray, List.set_cons_zero, List.set_cons_succ]
          refine wpAnyH_ready (rs := [6]) (by kernel_rfl) (by simp) ?_
          refine AllReadyH.cons (o := ⟨_, _, _, _, _, _⟩) rfl (fun K hK => ?_) AllReadyH.nil
          go_simp
          go_at_call 68
          refine (HOV.out _).mono ?_
          rintro e w9 ⟨rfl, hb9⟩
          have hS9 := TwoC.keep hb9 L1.out L2.out hHeld
          try replace HK7 := Lib.hid (blk_below HK7.out hb9)
          refine hK.out _ _ (by exact hS9) (fun hHeld => ?_)
          clear hK K
          try simp only [Act.put, List.setIfInBounds_toArray, List.set_cons_zero, List.set_cons_succ]
          refine wpAnyH_take (i := 7) (oi := ⟨_, _, _, _, _, _⟩) (v := ?vap1785q16n7) rfl (by kernel_rfl) (by kernel_rfl) (by kernel_rfl) (fun _ _ _ h => h) (Or.inl ⟨by rfl, ?hap1785q16n7⟩) (by assumption) ?_
          case hap1785q16n7 => (intro w hSw; (try dsimp only at hSw); go_simp; try with_reducible rfl)
          try simp only [Act.put, List.setIfInBounds_toArray, List.set_cons_zero, List.set_cons_succ]
          refine wpAnyH_take (i := 8) (oi := ⟨_, _, _, _, _, _⟩) (v := ?vap1785q17n8) rfl (by kernel_rfl) (by kernel_rfl) (by kernel_rfl) (fun _ _ _ h => h) (Or.inl ⟨by rfl, ?hap1785q17n8⟩) (by assumption) ?_
          case hap1785q17n8 => (intro w hSw; (try dsimp only at hSw); go_simp; try with_reducible rfl)
          try simp only [Act.put, List.setIfInBounds_toArray, List.set_cons_zero, List.set_cons_succ]
          refine wpAnyH_take (i := 9) (oi := ⟨_, _, _, _, _, _⟩) (v := ?vap1785q18n9) rfl (by kernel_rfl) (by kernel_rfl) (by kernel_rfl) (fun _ _ _ h => h) (Or.inl ⟨by rfl, ?hap1785q18n9⟩) (by assumption) ?_
          case hap1785q18n9 => (intro w hSw; (try dsimp only at hSw); go_simp; try with_reducible rfl)
          try simp only [Act.put, List.setIfInBounds_toArray, List.set_cons_zero, List.set_cons_succ]
          refine wpAnyH_ready (rs := [11]) (by kernel_rfl) (by simp) ?_
          refine AllReadyH.cons (o := ⟨_, _, _, _, _, _⟩) rfl (fun K hK => ?_) AllReadyH.nil
          obtain ⟨z0, z1, z2⟩ := tri_cells HK7.out
          have z3 : ∀ o, World.frozen? _ ⟨_, o, none⟩ = false := fun o => blk_free HK7.out
          go_simp
          generalize hw8 : World.setCell _ _ (.bool _) = w8
          have hs8 := tri_set HK7.out hw8
          have HK8 := Lib.hid hs8.1
          have hS9 := TwoC.keepB hs8.2 HIX.out L1.out L2.out hHeld
          clear hw8 hs8 z0 z1 z2 z3
          refine hK.out _ _ (by exact hS9) (fun hHeld => ?_)
          clear hK K
          try simp only [Act.put, List.setIfInBounds_toArray, List.set_cons_zero, List.set_cons_succ]
          refine wpAnyH_take (i := 12) (oi := ⟨_, _, _, _, _, _⟩) (v := ?vap1785q19n12) rfl (by kernel_rfl) (by kernel_rfl) (by kernel_rfl) (fun _ _ _ h => h) (Or.inl ⟨by rfl, ?hap1785q19n12⟩) (by assumption) ?_
          case hap1785q19n12 => (intro w hSw; (try dsimp only at hSw); go_simp; try with_reducible rfl)
          try simp only [Act.put, List.setIfInBounds_toArray, List.set_cons_zero, List.set_cons_succ]
          refine wpAnyH_done (by kernel_rfl) ?_ _
          have HA8 := Lib.hid (HAV.out.below (show TwoC V _ _ _ _ _ _ _ from hS9).2.2.2.2.2)
          obtain ⟨g0, g1, g2⟩ := tri_cells HK8.out
          go_wp2_with (at_builtin; refine wpList_push okDomino rfl _ _ rfl HA8.out rfl (nx, ny, nd) _ rfl _ rfl rfl (by omega) ?_; intro v10 w10 HA10 HG10)
          go_roundw
          case rel => exact ⟨k + 1, _, by omega, by go_num, rfl, by rw [HMV.out]; exact HA10⟩
          case measure => simp [intOf]; omega
      case cp1785q5n10 =>
        have HIX := Lib.hid (show TwoC V _ _ _ _ _ _ _ from hHeld).2.2.2.2.1
        go_simp
        generalize hw7 : World.alloc _ _ = w7
        have hb9 := (alloc_blk hw7).2
        have HK7 := Lib.hid (alloc_blk hw7).1
        first
          | have hS9 := TwoC.keepB hb9 HIX.out L1.out L2.out hHeld
          | (have hS9 := TwoC.drew (TwoC.keepB hb9 (Nat.le_refl _) L1.out L2.out HS0.out); replace HK7 := Lib.hid (show w7.drew.heap[_]? = _ from HK7.out))
        clear hw7
        refine hK.out _ _ (by exact hS9) (fun hHeld => ?_)
        clear hK K
        try simp only [Act.put, List.setIfInBounds_toArray, List.set_cons_zero, List.set_cons_succ]
        refine wpAnyH_ready (rs := [2]) (by kernel_rfl) (by simp) ?_
        refine AllReadyH.cons (o := ⟨_, _, _, _, _, _⟩) rfl (fun K hK => ?_) AllReadyH.nil
        go_simp
        go_at_call 52
        refine (mirror_one s x y (by omega) hxb hyb n0 _ (blk_below HN0.out (show TwoC V _ _ _ _ _ _ _ from hHeld).2.2.2.2.2)).mono ?_
        rintro e w9 ⟨rfl, hb9⟩
        have hS9 := TwoC.keep hb9 L1.out L2.out hHeld
        try replace HK7 := Lib.hid (blk_below HK7.out hb9)
        refine hK.out _ _ (by exact hS9) (fun hHeld => ?_)
        clear hK K
        try simp only [Act.put, List.setIfInBounds_toArray, List.set_cons_zero, List.set_cons_succ]
        refine wpAnyH_ready (rs := [5]) (by kernel_rfl) (by simp) ?_
        refine AllReadyH.cons (o := ⟨_, _, _, _, _, _⟩) rfl (fun K hK => ?_) AllReadyH.nil
        go_simp
        go_at_call 52
        refine (mirror_one s x2 y2 (by omega) hxb2 hyb2 n0 _ (blk_below HN0.out (show TwoC V _ _ _ _ _ _ _ from hHeld).2.2.2.2.2)).mono ?_
        rintro e w9 ⟨rfl, hb9⟩
        have hS9 := TwoC.keep hb9 L1.out L2.out hHeld
        try replace HK7 := Lib.hid (blk_below HK7.out hb9)
        refine hK.out _ _ (by exact hS9) (fun hHeld => ?_)
        clear hK K
        try simp only [Act.put, List.setIfInBounds_toArray, List.set_cons_zero, List.set_cons_succ]
        refine wpAnyH_ready (rs := [6]) (by kernel_rfl) (by simp) ?_
        refine AllReadyH.cons (o := ⟨_, _, _, _, _, _⟩) rfl (fun K hK => ?_) AllReadyH.nil
        go_simp
        go_at_call 68
        refine (HOV.out _).mono ?_
        rintro e w9 ⟨rfl, hb9⟩
        have hS9 := TwoC.keep hb9 L1.out L2.out hHeld
        try replace HK7 := Lib.hid (blk_below HK7.out hb9)
        refine hK.out _ _ (by exact hS9) (fun hHeld => ?_)
        clear hK K
        try simp only [Act.put, List.setIfInBounds_toArray, List.set_cons_zero, List.set_cons_succ]
        refine wpAnyH_take (i := 7) (oi := ⟨_, _, _, _, _, _⟩) (v := ?vap1785q20n7) rfl (by kernel_rfl) (by kernel_rfl) (by kernel_rfl) (fun _ _ _ h => h) (Or.inl ⟨by rfl, ?hap1785q20n7⟩) (by assumption) ?_
        case hap1785q20n7 => (intro w hSw; (try dsimp only at hSw); go_simp; try with_reducible rfl)
        try simp only [Act.put, List.setIfInBounds_toArray, List.set_cons_zero, List.set_cons_succ]
        refine wpAnyH_take (i := 8) (oi := ⟨_, _, _, _, _, _⟩) (v := ?vap1785q21n8) rfl (by kernel_rfl) (by kernel_rfl) (by kernel_rfl) (fun _ _ _ h => h) (Or.inl ⟨by rfl, ?hap1785q21n8⟩) (by assumption) ?_
        case hap1785q21n8 => (intro w hSw; (try dsimp only at hSw); go_simp; try with_reducible rfl)
        try simp only [Act.put, List.setIfInBounds_toArray, List.set_cons_zero, List.set_cons_succ]
        refine wpAnyH_take (i := 9) (oi := ⟨_, _, _, _, _, _⟩) (v := ?vap1785q22n9) rfl (by kernel_rfl) (by kernel_rfl) (by kernel_rfl) (fun _ _ _ h => h) (Or.inl ⟨by rfl, ?hap1785q22n9⟩) (by assumption) ?_
        case hap1785q22n9 => (intro w hSw; (try dsimp only at hSw); go_simp; try with_reducible rfl)
        try simp only [Act.put, List.setIfInBounds_toArray, List.set_cons_zero, List.set_cons_succ]
        refine wpAnyH_ready (rs := [11]) (by kernel_rfl) (by simp) ?_
        refine AllReadyH.cons (o := ⟨_, _, _, _, _, _⟩) rfl (fun K hK => ?_) AllReadyH.nil
        obtain ⟨z0, z1, z2⟩ := tri_cells HK7.out
        have z3 : ∀ o, World.frozen? _ ⟨_, o, none⟩ = false := fun o => blk_free HK7.out
        go_simp
        generalize hw8 : World.setCell _ _ (.bool _) = w8
        have hs8 := tri_set HK7.out hw8
        have HK8 := Lib.hid hs8.1
        have hS9 := TwoC.keepB hs8.2 HIX.out L1.out L2.out hHeld
        clear hw8 hs8 z0 z1 z2 z3
        refine hK.out _ _ (by exact hS9) (fun hHeld => ?_)
        clear hK K
        try simp only [Act.put, List.setIfInBounds_toArray, List.set_cons_zero, List.set_cons_succ]
        refine wpAnyH_take (i := 12) (oi := ⟨_, _, _, _, _, _⟩) (v := ?vap1785q23n12) rfl (by kernel_rfl) (by kernel_rfl) (by kernel_rfl) (fun _ _ _ h => h) (Or.inl ⟨by rfl, ?hap1785q23n12⟩) (by assumption) ?_
        case hap1785q23n12 => (intro w hSw; (try dsimp only at hSw); go_simp; try with_reducible rfl)
        try simp only [Act.put, List.setIfInBounds_toArray, List.set_cons_zero, List.set_cons_succ]
        refine wpAnyH_done (by kernel_rfl) ?_ _
        have HA8 := Lib.hid (HAV.out.below (show TwoC V _ _ _ _ _ _ _ from hS9).2.2.2.2.2)
        obtain ⟨g0, g1, g2⟩ := tri_cells HK8.out
        go_wp2_with (at_builtin; refine wpList_push okDomino rfl _ _ rfl HA8.out rfl (nx, ny, nd) _ rfl _ rfl rfl (by omega) ?_; intro v10 w10 HA10 HG10)
        go_roundw
        case rel => exact ⟨k + 1, _, by omega, by go_num, rfl, by rw [HMV.out]; exact HA10⟩
        case measure => simp [intOf]; omega
    · obtain rfl : k = ls.length := by omega
      have ht : decide ((ls.length : Int) < (ls.length : Int)) = false := by simp
      have HRD := Lib.hid (HA.out.1.rd okDomino)
      have HML := Lib.hid hml
      clear hml
      have HBA := Lib.hid HA.out.2.1
      go_wp2_with fail
      refine (SortDominoes_any _ (mv ls.length) _ _ HRD.out (Nat.le_refl _)).mono ?_
      rintro e w9 ⟨u9, rfl, ho9, hb9⟩
      have ho9 : OwnF elDomino w9 wr.heap.size u9 (sortI (mv ls.length) ls.length) := by rw [HML.out] at ho9; exact ho9
      have HO9 := Lib.hid (ho9.mono HBA.out.size)
      have HB9 := Lib.hid (HBA.out.trans (hb9.mono HBA.out.size))
      clear ho9 hb9
      go_wp2_with fail
      exact bodyPost_ret (v := .tuple #[u9, .bool true]) (by simp [results, Tryd.results51, go_sem]) rfl ⟨_, rfl, HO9.out, HB9.out⟩

set_option maxRecDepth 100000 in
set_option maxHeartbeats 4000000 in
theorem moved_no (s : Int) (v fv : Value) (ls : List Lk) (B : Nat) (w : World) (h : RdF elDomino w B v ls) (hB : B ≤ w.heap.size) (hf : fltB s s ls = false) :
    Calls Tryd.prog 51 #[.int .i64 s, v, fv] w (RetTiling w false []) := by
  cases t1 : inB s 1 8
  · clear hf
    go_enter Tryd.func51, Tryd.ntmps51
    go_wp2_with fail
    refine (within_any _ _ _ _).mono ?_
    rintro e w' ⟨rfl, rfl⟩
    rw [t1]
    go_wp2_with fail
    exact bodyPost_ret (v := .tuple #[.slice none 0 0, .bool false]) (by simp [results, Tryd.results51, go_sem]) rfl ⟨_, rfl, OwnF.nil, Below.refl _ _⟩
  · have ha := (inB_iff _ _ _).1 t1
    obtain ⟨s, rfl⟩ := Int.eq_ofNat_of_zero_le (show 0 ≤ s by omega)
    have ht : sTileB (setZ (rectZ s s)) ls = false := by unfold fltB at hf; rw [t1] at hf; simpa using hf
    have hok := rectZ_ok s s (by omega) (by omega)
    have HT : Hid (tileB (setZ (rectZ s s)) ls = false) := by unfold Hid; rw [tile_eq (setZ_lt hok)]; exact ht
    have HOK := Lib.hid hok
    have HV := Lib.hid h
    clear hok ht h hf
    go_enter Tryd.func51, Tryd.ntmps51
    go_wp2_with fail
    refine (within_any _ _ _ _).mono ?_
    rintro e w' ⟨rfl, rfl⟩
    rw [t1]
    go_wp2_with fail
    refine (Rectangle_yes s s (by omega) (by omega) _).mono ?_
    rintro e w1 ⟨u1, rfl, hr1, hb1⟩
    have HR1 := Lib.hid hr1
    have HB1 := Lib.hid hb1
    clear hb1 hr1
    go_wp2_with fail
    refine (IsTiling_yes _ _ _ ls _ _ HR1.out ((HV.out.below (HB1.out.mono hB)).more (Nat.le_trans hB HB1.out.size)) (Nat.le_refl _) HOK.out).mono ?_
    rintro e w2 ⟨rfl, hb2⟩
    rw [HT.out]
    have HB2 := Lib.hid (HB1.out.trans (hb2.mono HB1.out.size))
    clear hb2
    go_wp2_with fail
    exact bodyPost_ret (v := .tuple #[.slice none 0 0, .bool false]) (by simp [results, Tryd.results51, go_sem]) rfl ⟨_, rfl, OwnF.nil, HB2.out⟩

set_option maxRecDepth 100000 in
set_option maxHeartbeats 4000000 in
theorem TurnTiling_any (s : Int) (v : Value) (ls : List Lk) (B : Nat) (w : World) (h : RdF elDomino w B v ls) (hB : B ≤ w.heap.size) :
    Calls Tryd.prog 30 #[.int .i64 s, v] w (RetTiling w (fltB s s ls) (movZ true s ls)) := by
  have hmf : ∀ (fn : Fn) (first cap : Array Value) (w : World), (Instr.makeFunc fn first cap).run Tryd.prog w = .ok (.func fn first cap) w := fun _ _ _ _ => rfl
  obtain ⟨W, hW, k0, hb⟩ := one_alloc w (.cells #[.int .i64 s] 3)
  have c0 : W.cell? ⟨w.heap.size, 0, none⟩ = some (.int .i64 s) := cell_of_one k0
  have HW := Lib.hid hW
  have HB := Lib.hid hb
  have HK := Lib.hid k0
  have HV := Lib.hid (h.below (hb.mono hB))
  have hBW := Nat.le_trans hB hb.size
  cases hf : fltB s s ls
  · have HZ : Hid (movZ true s ls = []) := by unfold Hid movZ; rw [hf]; rfl
    rw [HZ.out]
    have HC := Lib.hid (fun fv => moved_no s v fv ls B W HV.out hBW hf)
    clear hW hb k0 h hf HZ
    go_enter Tryd.func30, Tryd.ntmps30
    go_wp2_with fail
    rw [← HW.out]
    refine (HC.out _).mono ?_
    rintro e w1 ⟨u1, rfl, ho1, hb1⟩
    have HO1 := Lib.hid (ho1.mono HB.out.size)
    have HB1 := Lib.hid (HB.out.trans (hb1.mono HB.out.size))
    clear ho1 hb1
    go_wp2_with fail
    exact bodyPost_ret (v := .tuple #[u1, .bool false]) (by simp [results, Tryd.results30, go_sem]) rfl ⟨_, rfl, HO1.out, HB1.out⟩
  · obtain ⟨s, rfl⟩ : ∃ n : Nat, s = (n : Int) := by
      have h9 := hf
      unfold fltB at h9
      simp only [Bool.and_eq_true, inB_iff] at h9
      exact ⟨s.toNat, by omega⟩
    have HC := Lib.hid (moved_turn s v ls w.heap.size B W HV.out hBW k0 hf)
    generalize movZ true (s : Int) ls = zs at *
    clear hW hb k0 h hf
    go_enter Tryd.func30, Tryd.ntmps30
    go_wp2_with fail
    rw [← HW.out]
    refine HC.out.mono ?_
    rintro e w1 ⟨u1, rfl, ho1, hb1⟩
    have HO1 := Lib.hid (ho1.mono HB.out.size)
    have HB1 := Lib.hid (HB.out.trans (hb1.mono HB.out.size))
    clear ho1 hb1
    go_wp2_with fail
    exact bodyPost_ret (v := .tuple #[u1, .bool true]) (by simp [results, Tryd.results30, go_sem]) rfl ⟨_, rfl, HO1.out, HB1.out⟩

set_option maxRecDepth 100000 in
set_option maxHeartbeats 4000000 in
theorem MirrorTiling_any (s : Int) (v : Value) (ls : List Lk) (B : Nat) (w : World) (h : RdF elDomino w B v ls) (hB : B ≤ w.heap.size) :
    Calls Tryd.prog 29 #[.int .i64 s, v] w (RetTiling w (fltB s s ls) (movZ false s ls)) := by
  have hmf : ∀ (fn : Fn) (first cap : Array Value) (w : World), (Instr.makeFunc fn first cap).run Tryd.prog w = .ok (.func fn first cap) w := fun _ _ _ _ => rfl
  obtain ⟨W, hW, k0, hb⟩ := one_alloc w (.cells #[.int .i64 s] 3)
  have c0 : W.cell? ⟨w.heap.size, 0, none⟩ = some (.int .i64 s) := cell_of_one k0
  have HW := Lib.hid hW
  have HB := Lib.hid hb
  have HK := Lib.hid k0
  have HV := Lib.hid (h.below (hb.mono hB))
  have hBW := Nat.le_trans hB hb.size
  cases hf : fltB s s ls
  · have HZ : Hid (movZ false s ls = []) := by unfold Hid movZ; rw [hf]; rfl
    rw [HZ.out]
    have HC := Lib.hid (fun fv => moved_no s v fv ls B W HV.out hBW hf)
    clear hW hb k0 h hf HZ
    go_enter Tryd.func29, Tryd.ntmps29
    go_wp2_with fail
    rw [← HW.out]
    refine (HC.out _).mono ?_
    rintro e w1 ⟨u1, rfl, ho1, hb1⟩
    have HO1 := Lib.hid (ho1.mono HB.out.size)
    have HB1 := Lib.hid (HB.out.trans (hb1.mono HB.out.size))
    clear ho1 hb1
    go_wp2_with fail
    exact bodyPost_ret (v := .tuple #[u1, .bool false]) (by simp [results, Tryd.results29, go_sem]) rfl ⟨_, rfl, HO1.out, HB1.out⟩
  · obtain ⟨s, rfl⟩ : ∃ n : Nat, s = (n : Int) := by
      have h9 := hf
      unfold fltB at h9
      simp only [Bool.and_eq_true, inB_iff] at h9
      exact ⟨s.toNat, by omega⟩
    have HC := Lib.hid (moved_mirror s v ls w.heap.size B W HV.out hBW k0 hf)
    generalize movZ false (s : Int) ls = zs at *
    clear hW hb k0 h hf
    go_enter Tryd.func29, Tryd.ntmps29
    go_wp2_with fail
    rw [← HW.out]
    refine HC.out.mono ?_
    rintro e w1 ⟨u1, rfl, ho1, hb1⟩
    have HO1 := Lib.hid (ho1.mono HB.out.size)
    have HB1 := Lib.hid (HB.out.trans (hb1.mono HB.out.size))
    clear ho1 hb1
    go_wp2_with fail
    exact bodyPost_ret (v := .tuple #[u1, .bool true]) (by simp [results, Tryd.results29, go_sem]) rfl ⟨_, rfl, HO1.out, HB1.out⟩
end Go.Proofs.YtehnbalbpfmijaaDoor

namespace Go.Proofs.YtehnbalbpfmijaaDoor
open Go.RowKit
set_option linter.unusedVariables false

/-- A list, turned k times. -/
def trnK (s : Int) (ls : List Lk) : Nat → List Lk
  | 0 => ls
  | k + 1 => movZ true s (trnK s ls k)
def seenZ (s : Int) (ls : List Lk) (k : Nat) (m : Bool) : List Lk := trnK s (if m then movZ false s ls else ls) k
/-- A list that can be read. -/
def RetRd (w : World) (xs : List Lk) (e : Ending) (w' : World) : Prop := ∃ u, e = .returned u ∧ RdF elDomino w' w'.heap.size u xs ∧ Below w.heap.size w w'
set_option maxRecDepth 100000 in
set_option maxHeartbeats 4000000 in
theorem seen_loop (s : Int) (tn : Nat) (htn : tn ≤ 3) (v : Value) (ls : List Lk) (m : Bool) (B : Nat) (w : World) (h : RdF elDomino w B v ls) (hB : B ≤ w.heap.size) :
    Calls Tryd.prog 13 #[.int .i64 s, v, .int .i64 (tn : Int), .bool m] w (RetRd w (seenZ s ls tn m)) := by
  obtain ⟨zs, HZS⟩ : ∃ zs, Hid ((if m then movZ false s ls else ls) = zs) := ⟨_, rfl⟩
  have HZ : Hid (seenZ s ls tn m = trnK s zs tn) := by unfold Hid seenZ; rw [HZS.out]
  rw [HZ.out]
  have HST : Hid (∀ k, trnK s zs (k + 1) = movZ true s (trnK s zs k)) := fun k => rfl
  have HS0 : Hid (trnK s zs 0 = zs) := rfl
  obtain ⟨st, HE⟩ : ∃ st, Hid (st = trnK s zs) := ⟨_, rfl⟩
  rw [← HE.out] at HST HS0 ⊢
  clear HZ HE
  have HMT := Lib.hid (fun v ls B w h hB => MirrorTiling_any s v ls B w h hB)
  have HTT := Lib.hid (fun v ls B w h hB => TurnTiling_any s v ls B w h hB)
  have HV := Lib.hid (h.more hB)
  obtain ⟨A, c, rfl, g1, g2, _⟩ := h
  unfold maxLen at g2
  cases m
  · obtain rfl : ls = zs := HZS.out
    clear HZS
    go_enter Tryd.func13, Tryd.ntmps13
    go_wp2_with fail
    go_loopw [1, 17] (fun l i wr => ∃ (k : Nat) (u : Value), k ≤ tn ∧ i = .int .i64 (k : Int) ∧ u = l ∧ Hid (RdF elDomino wr wr.heap.size u (st k)) ∧ Hid (Below w.heap.size w wr)) (fun _ i _ => tn - (intOf i).toNat)
    case atStart => exact ⟨0, _, Nat.zero_le _, rfl, rfl, by rw [HS0.out]; exact HV, Below.refl _ _⟩
    case round =>
      obtain ⟨k, u, hk, rfl, rfl, HR, HB⟩ := hrel
      obtain ⟨A1, c1, rfl, q1, q2, _⟩ := id HR.out
      unfold maxLen at q2
      by_cases hlt : k < tn
      · have ht : decide ((k : Int) < (tn : Int)) = true := by simp only [decide_eq_true_eq]; omega
        have HT := Lib.hid (HTT.out _ (st k) _ wr HR.out (Nat.le_refl _))
        have HSK := Lib.hid (HST.out k)
        rw [← HSK.out] at HT
        have hk0 : (0 : Int) ≤ (k : Int) := by omega
        have hk1 : (k : Int) < 3 := by omega
        clear HSK
        go_wp2_with fail
        refine HT.out.mono ?_
        rintro e w2 ⟨u2, rfl, ho2, hb2⟩
        have HR2 := Lib.hid (ho2.rd okDomino)
        have HB2 := Lib.hid (HB.out.trans (hb2.mono HB.out.size))
        clear ho2 hb2
        obtain ⟨A2, c2, rfl, r1, r2, _⟩ := id HR2.out
        go_wp2_with fail
        go_roundw
        case rel => exact ⟨k + 1, _, by omega, by go_num, rfl, HR2.out, HB2⟩
        case measure => simp [intOf]; omega
      · obtain rfl : k = tn := by omega
        have ht : decide ((k : Int) < (k : Int)) = false := by simp
        go_wp2_with fail
        go_ret
        exact ⟨_, rfl, HR.out, HB.out⟩
  · have HZ0 : Hid (movZ false s ls = zs) := HZS.out
    have HM := Lib.hid (HMT.out _ ls _ w HV.out (Nat.le_refl _))
    rw [HZ0.out] at HM
    clear HZS
    go_enter Tryd.func13, Tryd.ntmps13
    go_wp2_with fail
    refine HM.out.mono ?_
    rintro e w1 ⟨u1, rfl, ho1, hb1⟩
    have HR1 := Lib.hid (ho1.rd okDomino)
    have HB1 := Lib.hid hb1
    clear ho1 hb1
    obtain ⟨A0, c0, rfl, r1, r2, _⟩ := id HR1.out
    unfold maxLen at r2
    go_wp2_with fail
    go_loopw [1, 17] (fun l i wr => ∃ (k : Nat) (u : Value), k ≤ tn ∧ i = .int .i64 (k : Int) ∧ u = l ∧ Hid (RdF elDomino wr wr.heap.size u (st k)) ∧ Hid (Below w.heap.size w wr)) (fun _ i _ => tn - (intOf i).toNat)
    case atStart => exact ⟨0, _, Nat.zero_le _, rfl, rfl, by rw [HS0.out]; exact HR1, HB1⟩
    case round =>
      obtain ⟨k, u, hk, rfl, rfl, HR, HB⟩ := hrel
      obtain ⟨A1, c1, rfl, q1, q2, _⟩ := id HR.out
      unfold maxLen at q2
      by_cases hlt : k < tn
      · have ht : decide ((k : Int) < (tn : Int)) = true := by simp only [decide_eq_true_eq]; omega
        have HT := Lib.hid (HTT.out _ (st k) _ wr HR.out (Nat.le_refl _))
        have HSK := Lib.hid (HST.out k)
        rw [← HSK.out] at HT
        have hk0 : (0 : Int) ≤ (k : Int) := by omega
        have hk1 : (k : Int) < 3 := by omega
        clear HSK
        go_wp2_with fail
        refine HT.out.mono ?_
        rintro e w2 ⟨u2, rfl, ho2, hb2⟩
        have HR2 := Lib.hid (ho2.rd okDomino)
        have HB2 := Lib.hid (HB.out.trans (hb2.mono HB.out.size))
        clear ho2 hb2
        obtain ⟨A2, c2, rfl, s1, s2, _⟩ := id HR2.out
        go_wp2_with fail
        go_roundw
        case rel => exact ⟨k + 1, _, by omega, by go_num, rfl, HR2.out, HB2⟩
        case measure => simp [intOf]; omega
      · obtain rfl : k = tn := by omega
        have ht : decide ((k : Int) < (k : Int)) = false := by simp
        go_wp2_with fail
        go_ret
        exact ⟨_, rfl, HR.out, HB.out⟩
end Go.Proofs.YtehnbalbpfmijaaDoor

namespace Go.Proofs.YtehnbalbpfmijaaDoor
open Go.RowKit
set_option linter.unusedVariables false

/-- The first k dominoes are the same. -/
def sameTo (xs ys : List Lk) (k : Nat) : Prop := ∀ i, i < k → dAt xs i = dAt ys i
theorem sameD_all {xs ys : List Lk} (hl : xs.length = ys.length) (h : sameTo xs ys xs.length) : decide (xs = ys) = true := by
  rw [decide_eq_true_eq]
  refine List.ext_getElem hl fun i h1 h2 => ?_
  have := h i h1
  rw [dAt_get xs i h1, dAt_get ys i h2] at this
  exact this
theorem sameD_not {xs ys : List Lk} {i : Nat} (h : dAt xs i ≠ dAt ys i) : decide (xs = ys) = false := by
  rw [decide_eq_false_iff_not]
  intro e; subst e; exact h rfl
theorem sameD_len {xs ys : List Lk} (h : xs.length ≠ ys.length) : decide (xs = ys) = false := by
  rw [decide_eq_false_iff_not]
  intro e; subst e; exact h rfl

set_option maxRecDepth 100000 in
set_option maxHeartbeats 4000000 in
theorem specSameD_any (u v : Value) (xs ys : List Lk) (B : Nat) (w : World) (hu : RdF elDomino w B u xs) (hv : RdF elDomino w B v ys) (hB : B ≤ w.heap.size) :
    Calls Tryd.prog 8 #[u, v] w fun e w' => e = .returned (.bool (decide (xs = ys))) ∧ Drawn w w' := by
  obtain ⟨A, c, rfl, g1, g2, G3⟩ := RdT.of (E := elDomino) rfl (fun _ => rfl) hu
  obtain ⟨A2, c2, rfl, q1, q2, G4⟩ := RdT.of (E := elDomino) rfl (fun _ => rfl) hv
  unfold maxLen at g2 q2
  clear hu hv
  by_cases hl : xs.length = ys.length
  · have hne0 : ((xs.length : Int) != (ys.length : Int)) = false := by rw [hl]; simp
    go_enter Tryd.func8, Tryd.ntmps8
    go_wp2_with fail
    go_loopw [5] (fun s wr => ∃ k : Nat, k ≤ xs.length ∧ s = .int .i64 k ∧ Hid (Drawn w wr) ∧ Hid (sameTo xs ys k)) (fun s _ => xs.length - (intOf s).toNat)
    case atStart => exact ⟨0, Nat.zero_le _, rfl, Drawn.refl _, fun i hi => by omega⟩
    case round =>
      obtain ⟨k, hk, rfl, HD, HS⟩ := hrel
      by_cases hlt : k < xs.length
      · have ht : decide ((k : Int) < (xs.length : Int)) = true := by simp only [decide_eq_true_eq]; omega
        obtain ⟨ad, rfl, had, hx, hy, hz⟩ := G3.out k hlt
        obtain ⟨ad2, rfl, had2, hx2, hy2, hz2⟩ := G4.out k (by omega)
        have hb := HD.out.below w.heap.size
        have hx' := (hb.cell (p := ad.add (k * 3)) (by rw [addBlock]; omega)).trans hx
        have hy' := (hb.cell (p := ⟨(ad.add (k * 3)).block, (ad.add (k * 3)).off + 1, none⟩) (by show (ad.add (k * 3)).block < _; rw [addBlock]; omega)).trans hy
        have hz' := (hb.cell (p := ⟨(ad.add (k * 3)).block, (ad.add (k * 3)).off + 2, none⟩) (by show (ad.add (k * 3)).block < _; rw [addBlock]; omega)).trans hz
        have ux := (hb.cell (p := ad2.add (k * 3)) (by rw [addBlock]; omega)).trans hx2
        have uy := (hb.cell (p := ⟨(ad2.add (k * 3)).block, (ad2.add (k * 3)).off + 1, none⟩) (by show (ad2.add (k * 3)).block < _; rw [addBlock]; omega)).trans hy2
        have uz := (hb.cell (p := ⟨(ad2.add (k * 3)).block, (ad2.add (k * 3)).off + 2, none⟩) (by show (ad2.add (k * 3)).block < _; rw [addBlock]; omega)).trans hz2
        have hk0 : (0 : Int) ≤ (k : Int) := by omega
        have hk1 : (k : Int) < (xs.length : Int) := by omega
        have hk2 : (k : Int) < (ys.length : Int) := by omega
        have hk3 : k < ys.length := by omega
        have HEY : Hid (dAt xs k = (lx xs k, ly xs k, ld xs k)) := rfl
        have HEX : Hid (dAt ys k = (lx ys k, ly ys k, ld ys k)) := rfl
        clear hx hy hz hx2 hy2 hz2 hb
        generalize lx xs k = p1 at *
        generalize ly xs k = p2 at *
        generalize ld xs k = p3 at *
        generalize lx ys k = r1 at *
        generalize ly ys k = r2 at *
        generalize ld ys k = r3 at *
        by_cases e1 : p1 = r1
        · subst e1
          by_cases e2 : p2 = r2
          · subst e2
            by_cases e3 : p3 = r3
            · subst e3
              have HS2 : Hid (sameTo xs ys (k + 1)) := fun i hi => by
                by_cases e : i = k
                · subst e; rw [HEY.out, HEX.out]
                · exact HS.out i (by omega)
              go_wp2_with fail
              go_quiet (fail)
              go_wp2_with fail
              go_roundw
              case rel => exact ⟨k + 1, by omega, by go_num, HD.out.trans ⟨_, rfl⟩, HS2⟩
              case measure => simp [intOf]; omega
            · have f3 : (p3 == r3) = false := by rw [beq_eq_false_iff_ne]; exact e3
              have hno := sameD_not (i := k) (xs := xs) (ys := ys) (by rw [HEY.out, HEX.out]; simp [e3])
              go_wp2_with fail
              go_quiet (fail)
              go_wp2_with fail
              go_ret
              exact ⟨ret_bool hno.symm, HD.out.trans ⟨_, rfl⟩⟩
          · have f2 : (p2 == r2) = false := by rw [beq_eq_false_iff_ne]; exact e2
            have hno := sameD_not (i := k) (xs := xs) (ys := ys) (by rw [HEY.out, HEX.out]; simp [e2])
            go_wp2_with fail
            go_quiet (fail)
            go_wp2_with fail
            go_ret
            exact ⟨ret_bool hno.symm, HD.out.trans ⟨_, rfl⟩⟩
        · have f1 : (p1 == r1) = false := by rw [beq_eq_false_iff_ne]; exact e1
          have hno := sameD_not (i := k) (xs := xs) (ys := ys) (by rw [HEY.out, HEX.out]; simp [e1])
          go_wp2_with fail
          go_quiet (fail)
          go_wp2_with fail
          go_ret
          exact ⟨ret_bool hno.symm, HD.out.trans ⟨_, rfl⟩⟩
      · have ht : decide ((k : Int) < (xs.length : Int)) = false := by simp only [decide_eq_false_iff_not]; omega
        obtain rfl : k = xs.length := by omega
        have hyes := sameD_all hl HS.out
        go_wp2_with fail
        go_ret
        exact ⟨ret_bool hyes.symm, HD.out⟩
  · have hne0 : ((xs.length : Int) != (ys.length : Int)) = true := by simp; omega
    have hno := sameD_len hl
    go_enter Tryd.func8, Tryd.ntmps8
    go_wp2_with fail
    go_ret
    exact ⟨ret_bool hno.symm, Drawn.refl _⟩
end Go.Proofs.YtehnbalbpfmijaaDoor

namespace Go.Proofs.YtehnbalbpfmijaaDoor
open Go.RowKit
set_option linter.unusedVariables false

theorem NRel.rdD {w wr : World} {base lo hi : Nat} {v : Value} {xs : List (List Lk)} (h : NRel (kdF elDomino) eDD w base lo wr hi v xs) : RdN (RdF elDomino) wr wr.heap.size v xs :=
  h.rdN (K := kdF elDomino) okDD fun _ _ _ _ _ hx => hx.1.rd okDomino
theorem RdN.belowD {w w' : World} {B : Nat} {v : Value} {xs : List (List Lk)} (h : RdN (RdF elDomino) w B v xs) (hb : Below B w w') : RdN (RdF elDomino) w' B v xs := RdN.below (fun _ _ hx => RdF.below hx hb) h hb
/-- All tilings of a square. -/
def allT (s : Nat) : List (List Lk) := lstE 61 (setZ (rectZ s s)) [] []
theorem fix_tab : ([2, 4].all fun s => decide (bitsN (setZ (rectZ s s)) ≤ 60) && decide (1 ≤ profZ (setZ (rectZ s s))) && decide (profZ (setZ (rectZ s s)) ≤ 300) && decide ((allT s).length ≤ 300)) = true := by decide +kernel
theorem fix_at {s : Nat} (hs : s = 2 ∨ s = 4) : bitsN (setZ (rectZ s s)) ≤ 60 ∧ (1 ≤ profZ (setZ (rectZ s s)) ∧ profZ (setZ (rectZ s s)) ≤ 300) ∧ (allT s).length ≤ 300 := by
  have h := List.all_eq_true.1 fix_tab s (by rcases hs with rfl | rfl <;> simp)
  simp only [Bool.and_eq_true, decide_eq_true_eq] at h
  exact ⟨h.1.1.1, ⟨h.1.1.2, h.1.2⟩, h.2⟩
set_option maxRecDepth 100000 in
theorem ListT_sq (s : Nat) (hs : s = 2 ∨ s = 4) (v : Value) (B : Nat) (w : World) (h : RdI w B v (rectZ s s)) (hB : B ≤ w.heap.size) :
    Calls Tryd.prog 10 #[.agg #[v]] w (RetN (kdF elDomino) eDD w (allT s)) := by
  obtain ⟨hb1, hb2, hb3⟩ := fix_at hs
  have hok := rectZ_ok s s (by omega) (by omega)
  generalize hz : rectZ s s = zs at *
  have ha : allT s = lstE 61 (setZ zs) [] [] := by unfold allT; rw [hz]
  rw [ha] at hb3 ⊢
  exact ListTilings_yes v zs B w h hB hok hb1 hb2 (Nat.le_trans hb3 (by omega))
/-- How many of the first k lists have a property. -/
def numTo (p : List Lk → Bool) (L : List (List Lk)) (k : Nat) : Nat := (L.take k).countP p
theorem numTo_step (p : List Lk → Bool) (L : List (List Lk)) (k : Nat) (h : k < L.length) : numTo p L (k + 1) = numTo p L k + if p L[k] then 1 else 0 := by
  unfold numTo
  rw [List.take_succ_eq_append_getElem h, List.countP_append]
  simp
theorem numTo_le (p : List Lk → Bool) (L : List (List Lk)) (k : Nat) : numTo p L k ≤ k := by
  unfold numTo
  exact Nat.le_trans (List.countP_le_length) (by rw [List.length_take]; omega)
def fixB (s : Int) (tn : Nat) (m : Bool) (ls : List Lk) : Bool := decide (seenZ s ls tn m = ls)
def fixN (s tn : Nat) (m : Bool) : Nat := numTo (fixB s tn m) (allT s) (allT s).length
end Go.Proofs.YtehnbalbpfmijaaDoor

namespace Go.Proofs.YtehnbalbpfmijaaDoor
open Go.RowKit
set_option linter.unusedVariables false

end Go.Proofs.YtehnbalbpfmijaaDoor

namespace Go.Proofs.YtehnbalbpfmijaaDoor
open Go.RowKit

/-! ### The plain functions -/
def lkAt (w h x y : Int) : List Lk := (if x + 1 < w then [(x, y, false)] else []) ++ (if y + 1 < h then [(x, y, true)] else [])
def lkRow (w h y : Int) : Nat → List Lk | 0 => [] | x + 1 => lkRow w h y x ++ lkAt w h x y
def lkAll (w h : Int) : Nat → List Lk | 0 => [] | y + 1 => lkAll w h y ++ lkRow w h y w.toNat
def lkFlat (w h : Nat) : Nat → List Lk | 0 => [] | k + 1 => lkFlat w h k ++ lkAt w h ((k % w : Nat) : Int) ((k / w : Nat) : Int)
def linksZ (w h : Int) : List Lk := if gridB w h then lkAll w h h.toNat else []
theorem gridB_iff (x y : Int) : gridB x y = true ↔ (1 ≤ x ∧ x ≤ 4) ∧ 1 ≤ y ∧ y ≤ 4 := by simp [gridB, inB_iff]
theorem all2 {a b : Nat} {p : Nat → Nat → Bool} (h : ((List.range a).all fun x => (List.range b).all fun y => p x y) = true) (x y : Nat) (hx : x < a) (hy : y < b) : p x y = true := by
  rw [List.all_eq_true] at h
  have := h x (by simpa using hx)
  rw [List.all_eq_true] at this
  exact this y (by simpa using hy)
theorem lk_tab : ((List.range 5).all fun w => (List.range 5).all fun h => w == 0 || h == 0 || lkFlat w h (w * h) == lkAll w h h) = true := by decide +kernel
theorem lk_same (w : Nat) (h1 : w ≤ 4) (h : Nat) (h2 : h ≤ 4) (h3 : 1 ≤ w) (h4 : 1 ≤ h) : lkFlat w h (w * h) = lkAll w h h := by
  have := all2 lk_tab w h (by omega) (by omega)
  simp only [Bool.or_eq_true, beq_iff_eq] at this
  rcases this with (e | e) | e
  · omega
  · omega
  · exact e
theorem lkAt_len (w h x y : Int) : (lkAt w h x y).length ≤ 2 := by unfold lkAt; split <;> split <;> simp
theorem lkRow_len (w h y : Int) : ∀ x, (lkRow w h y x).length ≤ 2 * x
  | 0 => by simp [lkRow]
  | x + 1 => by have := lkRow_len w h y x; have := lkAt_len w h x y; simp [lkRow]; omega
theorem linksZ_len (w h : Int) : (linksZ w h).length ≤ 32 := by
  unfold linksZ
  split
  · rename_i hg
    obtain ⟨⟨a1, a2⟩, a3, a4⟩ := (gridB_iff _ _).1 hg
    have : ∀ n : Nat, (lkAll w h n).length ≤ 8 * n := fun n => by
      induction n with
      | zero => simp [lkAll]
      | succ n ih => have := lkRow_len w h n w.toNat; simp [lkAll]; omega
    have := this h.toNat
    omega
  · simp

end Go.Proofs.YtehnbalbpfmijaaDoor

namespace Go.Proofs.YtehnbalbpfmijaaDoor
open Go.RowKit

def postA (wd : Int) (l : Lk) : Int := l.2.1 * wd + l.1
def postB (wd : Int) (l : Lk) : Int := if l.2.2 then postA wd l + wd else postA wd l + 1
theorem mul_bdP {a b A B : Int} (h1 : 0 ≤ a) (h2 : a ≤ A) (h3 : 0 ≤ b) (h4 : b ≤ B) : 0 ≤ a * b ∧ a * b ≤ A * B :=
  ⟨Int.mul_nonneg h1 h3, Int.mul_le_mul h2 h4 h3 (by omega)⟩
end Go.Proofs.YtehnbalbpfmijaaDoor
