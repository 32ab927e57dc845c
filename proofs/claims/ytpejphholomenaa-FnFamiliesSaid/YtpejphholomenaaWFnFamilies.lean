/- The walk of the law FnFamilies: it returns true. -/
import Derived.Test.YtpejphholomenaaFamLaw
import Derived.Test.YtpejphholomenaaFrameB
import Derived.Test.YtpejphholomenaaLawSame
import Derived.Test.YtpejphholomenaaOsP
import Derived.Deep.RegionHeld3
namespace Go.Proofs.Ytpejphholomenaa
open Go.RowKit
set_option linter.unusedVariables false

/-- One point in a block of its own, in a world that grows. -/
def PtS (w w' : World) (b : Nat) (x y : Int) : Prop := w'.cell? ⟨b, 0, none⟩ = some (.int .i64 x) ∧ w'.cell? ⟨b, 1, none⟩ = some (.int .i64 y) ∧ b < w'.heap.size ∧ Below w.heap.size w w'
theorem PtS.alloc {w w' : World} {b : Nat} {x y : Int} (h : PtS w w' b x y) (o : Obj) : PtS w (w'.alloc o) b x y := by
  have hb : Below w'.heap.size w' (w'.alloc o) := (Below.refl _ _).alloc (Nat.le_refl _) o
  exact ⟨(hb.cell h.2.2.1).trans h.1, (hb.cell (p := ⟨b, 1, none⟩) h.2.2.1).trans h.2.1, Nat.lt_of_lt_of_le h.2.2.1 hb.size, h.2.2.2.trans (hb.mono h.2.2.2.size)⟩
theorem PtS.set {w w' : World} {b c : Nat} {x y : Int} (h : PtS w w' b x y) (hc : c ≠ b) (hw : w.heap.size ≤ c) (i : Nat) (v : Value) : PtS w (w'.setCell ⟨c, i, none⟩ v) b x y := by
  have hk := Below.heap_setCell w' ⟨c, i, none⟩ v b (by simpa using Ne.symm hc)
  exact ⟨(World.cell?_of_block hk).trans h.1, (World.cell?_of_block hk).trans h.2.1, by simpa using h.2.2.1, h.2.2.2.setCell hw v⟩
theorem RdP.wide {w : World} {B B' : Nat} {v : Value} {ps : List (Int × Int)} (h : RdP w B v ps) (hB : B ≤ B') : RdP w B' v ps := by
  obtain ⟨A, c, e, h1, h2, h3⟩ := h
  refine ⟨A, c, e, h1, h2, fun j hj => ?_⟩
  obtain ⟨ad, e2, hb, r⟩ := h3 j hj
  exact ⟨ad, e2, by omega, r⟩
/-- Two points side by side. -/
def PairS (w3 w' : World) (b : Nat) (x y ex ey : Int) : Prop := w'.cell? ⟨b, 0, none⟩ = some (.int .i64 x) ∧ w'.cell? ⟨b, 1, none⟩ = some (.int .i64 y) ∧ w'.cell? ⟨b + 1, 0, none⟩ = some (.int .i64 ex) ∧ w'.cell? ⟨b + 1, 1, none⟩ = some (.int .i64 ey) ∧ b + 1 < w'.heap.size ∧ Below w3.heap.size w3 w'
theorem PairS.of {w w3 W : World} {b : Nat} {x y : Int} (h : PtS w W.drew b x y) (hs : W.heap.size = b + 1) (hb : Below w3.heap.size w3 W.drew) (h3 : w3.heap.size ≤ b) (ex ey : Int) :
    PairS w3 (W.alloc (.cells #[.int .i64 ex, .int .i64 ey] 32)).drew b x y ex ey := by
  have hw : Below W.heap.size W.drew (W.alloc (.cells #[.int .i64 ex, .int .i64 ey] 32)).drew := (Below.refl W.heap.size W.drew).alloc (Nat.le_refl _) _
  have hn := heap_alloc_new W (.cells #[.int .i64 ex, .int .i64 ey] 32)
  rw [hs] at hn
  have hn' : (W.alloc (.cells #[.int .i64 ex, .int .i64 ey] 32)).drew.heap[b + 1]? = some (.cells #[.int .i64 ex, .int .i64 ey] 32 (0, 0)) := hn
  exact ⟨(hw.cell (p := ⟨b, 0, none⟩) (show b < W.heap.size by omega)).trans h.1, (hw.cell (p := ⟨b, 1, none⟩) (show b < W.heap.size by omega)).trans h.2.1, by rw [blk_cell hn']; rfl, by rw [blk_cell hn']; rfl, lt_of_block hn', hb.trans (hw.mono (by omega))⟩

/-- What the law's last statement reads. -/
def FamR (W w' : World) (pr pe pa pb ps pt : Addr) (row : Value) (m ax ay bx bY sx sy ex ey : Int) : Prop :=
  w'.cell? pr = some row ∧ w'.cell? pe = some (.int .i64 m) ∧ w'.cell? pa = some (.int .i64 ax) ∧ w'.cell? ⟨pa.block, pa.off + 1, none⟩ = some (.int .i64 ay) ∧
  w'.cell? pb = some (.int .i64 bx) ∧ w'.cell? ⟨pb.block, pb.off + 1, none⟩ = some (.int .i64 bY) ∧ w'.cell? ps = some (.int .i64 sx) ∧ w'.cell? ⟨ps.block, ps.off + 1, none⟩ = some (.int .i64 sy) ∧
  w'.cell? pt = some (.int .i64 ex) ∧ w'.cell? ⟨pt.block, pt.off + 1, none⟩ = some (.int .i64 ey) ∧ Below W.heap.size W w'
def FamB (W : World) (pr pe pa pb ps pt : Addr) : Prop := pr.block < W.heap.size ∧ pe.block < W.heap.size ∧ pa.block < W.heap.size ∧ pb.block < W.heap.size ∧ ps.block < W.heap.size ∧ pt.block < W.heap.size
theorem FamR.b {W w' : World} {pr pe pa pb ps pt : Addr} {row : Value} {m ax ay bx bY sx sy ex ey : Int} (h : FamR W w' pr pe pa pb ps pt row m ax ay bx bY sx sy ex ey) : Below W.heap.size W w' := h.2.2.2.2.2.2.2.2.2.2
theorem FamR.keep {W w' w1 : World} {pr pe pa pb ps pt : Addr} {row : Value} {m ax ay bx bY sx sy ex ey : Int} (hl : FamB W pr pe pa pb ps pt) (hb : Below w'.heap.size w' w1) (h : FamR W w' pr pe pa pb ps pt row m ax ay bx bY sx sy ex ey) : FamR W w1 pr pe pa pb ps pt row m ax ay bx bY sx sy ex ey := by
  obtain ⟨l1, l2, l3, l4, l5, l6⟩ := hl
  have hs := h.b.size
  obtain ⟨h1, h2, h3, h4, h5, h6, h7, h8, h9, h10, h11⟩ := h
  have hk : ∀ (p : Addr) (v : Value), p.block < W.heap.size → w'.cell? p = some v → w1.cell? p = some v := fun p v hp hv => (hb.cell (by omega)).trans hv
  exact ⟨hk _ _ l1 h1, hk _ _ l2 h2, hk _ _ l3 h3, hk _ _ l3 h4, hk _ _ l4 h5, hk _ _ l4 h6, hk _ _ l5 h7, hk _ _ l5 h8, hk _ _ l6 h9, hk _ _ l6 h10, h11.trans (hb.mono hs)⟩
theorem FamR.drew {W w' : World} {pr pe pa pb ps pt : Addr} {row : Value} {m ax ay bx bY sx sy ex ey : Int} (h : FamR W w' pr pe pa pb ps pt row m ax ay bx bY sx sy ex ey) : FamR W w'.drew pr pe pa pb ps pt row m ax ay bx bY sx sy ex ey := by
  obtain ⟨h1, h2, h3, h4, h5, h6, h7, h8, h9, h10, h11⟩ := h
  exact ⟨h1, h2, h3, h4, h5, h6, h7, h8, h9, h10, h11.drew⟩

set_option maxRecDepth 100000 in
set_option maxHeartbeats 60000000 in
theorem walkFnFamilies (u : Value) (n : Nat) (w : World) (hu : RdU w w.heap.size u n) :
    Calls Try.prog 3 #[u] w fun e w' => e = .returned (.bool true) ∧ Below w.heap.size w w' := by
  have HU := Lib.hid hu
  clear hu
  by_cases c1 : (1048576 : Int) < (n : Int)
  · go_enter Try.func3, Try.ntmps3
    go_wp2_with fail
    refine (big_any _ n _ _ HU.out).mono ?_
    rintro e w1 ⟨rfl, rfl⟩
    go_wp2_with fail
    go_ret
    exact ⟨rfl, Below.refl _ _⟩
  · go_enter Try.func3, Try.ntmps3
    go_wp2_with fail
    refine (big_any _ n _ _ HU.out).mono ?_
    rintro e w0 ⟨rfl, rfl⟩
    go_wp2_with fail
    refine (DrawNested_any _ n _ _ HU.out (Nat.le_refl _)).mono ?_
    rintro e w1 ⟨m, a, b, e1, e2, u1, u2, hr, rfl, ho1, ho2, hb1⟩
    have hs1 := hb1.size
    have hm1 := hr.m1
    have hm3 := hr.m3
    obtain ⟨hF1, hF2, hF3, hF4⟩ := fam_facts hr
    have hl1 : ((dnA m e1 e2).length : Int) = m := by simp [dnA]; omega
    have hl2 : ((dnB m a b).length : Int) = m := by simp [dnB]; omega
    generalize dnA m e1 e2 = ps at *
    generalize dnB m a b = qs at *
    clear hr
    have HP1 := Lib.hid (rdP_of (ho1.rd okSpot))
    have HP2 := Lib.hid (rdP_of (ho2.rd okSpot))
    obtain ⟨A1, d1, hv1, _⟩ := HP1.out
    obtain ⟨A2, d2, hv2, _⟩ := HP2.out
    rw [hv1] at HP1; rw [hv2] at HP2
    rw [hv1, hv2]
    clear ho1 ho2 hv1 hv2
    have HF2 := Lib.hid hF2; have HF1 := Lib.hid hF1; have HF3 := Lib.hid hF3; have HF4 := Lib.hid hF4
    obtain ⟨hms, hmr⟩ := pm_shape hF2
    have HMD := Lib.hid (fun k => pm_diag (k := k) hF2)
    have HMR := Lib.hid hmr
    have HMS := Lib.hid hms
    have HL2 := Lib.hid hl2
    clear hF1 hF2 hF3 hF4 hms hmr hl2
    go_wp2_with fail
    refine (CountFamilies_any _ _ ps qs _ _ HP1.out HP2.out (Nat.le_refl _)).mono ?_
    rintro e w2 ⟨rfl, hb2⟩
    have hq2 := hb1.trans (hb2.mono hs1)
    have hs2 := hb2.size
    go_wp2_with fail
    refine (PathMatrix_any _ _ ps qs _ _ (HP1.out.below hb2) (HP2.out.below hb2) hs2).mono ?_
    rintro e w3 ⟨v3, hi3, rfl, ho3, hx3, hb3⟩
    have hq3 := hq2.trans (hb3.mono hq2.size)
    have hs3 := hb3.size
    have HM := Lib.hid ho3.rd
    obtain ⟨A3, d3, hv3, g31, g32, G3⟩ := HM.out.open_
    rw [hv3] at HM ⊢
    clear ho3 hv3
    go_wp2_with fail
    refine (at_any _ n _ 0 _ (HU.out.below hq3) (by omega) (by omega)).mono ?_
    rintro e w' ⟨z0, z00, z01, rfl, rfl⟩
    go_wp2_with fail
    refine (at_any _ n _ 1 _ (HU.out.below hq3) (by omega) (by omega)).mono ?_
    rintro e w' ⟨z1, z10, z11, rfl, rfl⟩
    go_wp2_with fail
    refine (at_any _ n _ 2 _ (HU.out.below hq3) (by omega) (by omega)).mono ?_
    rintro e w' ⟨z2, z20, z21, rfl, rfl⟩
    go_wp2_with fail
    rename_i K hKa
    obtain ⟨W, hW, k1, hbW⟩ := one_alloc w3 (.cells #[.int .i64 (z1 % 5), .int .i64 (z2 % 5)] 32)
    have hx0 : 0 ≤ z1 % 5 ∧ z1 % 5 ≤ 4 := by omega
    have hy0 : 0 ≤ z2 % 5 ∧ z2 % 5 ≤ 4 := by omega
    rw [← hW]
    have hsz : W.heap.size = w3.heap.size + 1 := by rw [hW]; simp
    clear hW
    generalize z1 % 5 = sx at *
    generalize z2 % 5 = sy at *
    obtain ⟨k, hk⟩ := Int.eq_ofNat_of_zero_le (Int.emod_nonneg z0 (show m ≠ 0 by omega))
    have hkl : k < ps.length := by have := Int.emod_lt_of_pos z0 (show 0 < m by omega); omega
    rw [hk]
    clear hk
    have HBW := Lib.hid (hq3.trans (hbW.mono hq3.size))
    have HS0 : Hid (PtS w W.drew w3.heap.size sx sy) := ⟨by show W.cell? _ = _; rw [blk_cell k1]; rfl, by show W.cell? _ = _; rw [blk_cell k1]; rfl, by show w3.heap.size < W.heap.size; omega, HBW.out.drew⟩
    have HE2 : Hid (∀ ex ey : Int, PairS w3 (W.alloc (.cells #[.int .i64 ex, .int .i64 ey] 32)).drew w3.heap.size sx sy ex ey) := fun ex ey => PairS.of HS0.out hsz hbW.drew (Nat.le_refl _) ex ey
    have HE1 : Hid (∀ ex ey : Int, PtS w (W.alloc (.cells #[.int .i64 ex, .int .i64 ey] 32)).drew w3.heap.size sx sy) := fun ex ey => PtS.alloc HS0.out _
    clear k1 hbW
    have HR : ∀ z3 z4 : Int, 0 ≤ z3 → z3 ≤ 255 → 0 ≤ z4 → z4 ≤ 255 → K ⟨#[u, undef, .bool false, .slice A1 ps.length d1, .slice A2 qs.length d2, .int .i64 (cfZ ps qs), .slice A3 (pmZ ps qs).length d3, .int .i64 (k : Int), .pointer (some ⟨w3.heap.size, 0, none⟩), .pointer (some ⟨w3.heap.size + 1, 0, none⟩), u, .bool (decide ((1048576 : Int) < (n : Int))), .tuple #[.slice A1 ps.length d1, .slice A2 qs.length d2], u, .tuple #[.slice A1 ps.length d1, .slice A2 qs.length d2], .slice A1 ps.length d1, .slice A2 qs.length d2, .slice A1 ps.length d1, .slice A2 qs.length d2, .int .i64 (cfZ ps qs), .slice A1 ps.length d1, .slice A2 qs.length d2, .slice A3 (pmZ ps qs).length d3, u, .int .i64 z0, .slice A1 ps.length d1, .int .i64 m, .int .i64 (k : Int), u, .int .i64 z1, .int .i64 sx, u, .int .i64 z2, .int .i64 sy, .agg #[.int .i64 sx, .int .i64 sy], .pointer (some ⟨w3.heap.size, 0, none⟩), .int .i64 sx, .int .i64 (IntKind.i64.wrap (sx + 1)), u, .int .i64 z3, .int .i64 (z3.tmod 3), .int .i64 (IntKind.i64.wrap (IntKind.i64.wrap (sx + 1) + z3.tmod 3)), .pointer (some ⟨w3.heap.size, 1, none⟩), .int .i64 sy, .int .i64 (IntKind.i64.wrap (sy + 1)), u, .int .i64 z4, .int .i64 (z4.tmod 3), .int .i64 (IntKind.i64.wrap (IntKind.i64.wrap (sy + 1) + z4.tmod 3)), .agg #[.int .i64 (IntKind.i64.wrap (IntKind.i64.wrap (sx + 1) + z3.tmod 3)), .int .i64 (IntKind.i64.wrap (IntKind.i64.wrap (sy + 1) + z4.tmod 3))], undef, undef, undef, undef, undef, undef, undef, undef, undef, undef, undef, undef, undef, undef, undef, undef, undef, undef, undef, undef, undef, undef, undef, undef, undef, undef, undef, undef, undef, undef, undef, undef, undef, undef, undef, undef, undef, undef, undef, undef, undef, undef, undef, undef, undef, undef, undef, undef, undef, undef, undef, undef, undef, undef, undef, undef, undef, undef, undef, undef, undef, undef, undef, undef, undef, undef, undef, undef, undef, undef, undef, undef, undef, undef, undef, undef, undef, undef, undef, undef, undef, undef, undef, undef], []⟩ ((W.alloc (.cells #[.int .i64 (sx + 1 + z3 % 3), .int .i64 (sy + 1 + z4 % 3)] 32)).drew) := by
      as_aux_lemma =>
        intro z3 z4 z30 z31 z40 z41
        refine hKa _ _ ?_
        have HPR := Lib.hid (HE2.out (sx + 1 + z3 % 3) (sy + 1 + z4 % 3))
        have hd0 : 0 ≤ z3 % 3 ∧ z3 % 3 ≤ 2 := by omega
        have hd1 : 0 ≤ z4 % 3 ∧ z4 % 3 ≤ 2 := by omega
        generalize (W.alloc (.cells #[.int .i64 (sx + 1 + z3 % 3), .int .i64 (sy + 1 + z4 % 3)] 32)).drew = W4 at *
        generalize z3 % 3 = dx3 at *
        generalize z4 % 3 = dy4 at *
        obtain ⟨hpas, hone⟩ := pas_facts hx0 hy0 hd0 hd1
        clear HE2 HE1 HS0 HBW
        obtain ⟨f1, f2, f3, f4, f5, f6⟩ := HPR.out
        have hB4 := hb3.trans (f6.mono hb3.size)
        have HQ4 := Lib.hid (hq3.trans (f6.mono hq3.size))
        have HP1_4 := Lib.hid ((HP1.out.below (hb2.trans (hB4.mono hs2))).wide (show w1.heap.size ≤ W4.heap.size by have := hB4.size; omega))
        have HP2_4 := Lib.hid ((HP2.out.below (hb2.trans (hB4.mono hs2))).wide (show w1.heap.size ≤ W4.heap.size by have := hB4.size; omega))
        have HM_4 := Lib.hid ((HM.out.below f6).more f6.size)
        obtain ⟨_, _, e0, p10, p11, hP1⟩ := HP1_4.out
        simp only [Value.slice.injEq, true_and] at e0
        obtain ⟨rfl, rfl⟩ := e0
        obtain ⟨_, _, e0, p20, p21, hP2⟩ := HP2_4.out
        simp only [Value.slice.injEq, true_and] at e0
        obtain ⟨rfl, rfl⟩ := e0
        obtain ⟨_, _, e0, p30, p31, hP3⟩ := HM_4.out.open_
        simp only [Value.slice.injEq, true_and] at e0
        obtain ⟨rfl, rfl⟩ := e0
        have HLM := HMS.out
        have HLR := HMR.out k hkl
        have HLQ := HL2.out
        obtain ⟨ad1, rfl, b1, c1a, c1b⟩ := hP1 k hkl
        obtain ⟨ad2, rfl, b2, c2a, c2b⟩ := hP2 k (by omega)
        obtain ⟨ad3, u4, rfl, b3, c3, A4, d4, rfl, r1, r2, r3⟩ := hP3 k (by omega)
        obtain ⟨ad4, rfl, b4, c4⟩ := r3.el (show k < (rw' (pmZ ps qs) k).length by omega)
        rw [HMD.out k hkl] at c4
        clear hP1 hP2 hP3 r3 HMD HM HP1 HP2
        unfold maxLen at p11 p21 p31 r2
        have HR0 : Hid (FamR W4 W4.drew (ad3.add k) (ad4.add k) (ad1.add (k * 2)) (ad2.add (k * 2)) ⟨w3.heap.size, 0, none⟩ ⟨w3.heap.size + 1, 0, none⟩ (.slice (some ad4) (rw' (pmZ ps qs) k).length d4) (pathsZ (px ps k) (py ps k) (px qs k) (py qs k)) (px ps k) (py ps k) (px qs k) (py qs k) sx sy (sx + 1 + dx3) (sy + 1 + dy4)) :=
          FamR.drew ⟨c3, c4, c1a, c1b, c2a, c2b, f1, f2, f3, f4, Below.refl _ _⟩
        have HFB : Hid (FamB W4 (ad3.add k) (ad4.add k) (ad1.add (k * 2)) (ad2.add (k * 2)) ⟨w3.heap.size, 0, none⟩ ⟨w3.heap.size + 1, 0, none⟩) := ⟨by rw [addBlock]; exact b3, by rw [addBlock]; exact b4, by rw [addBlock]; exact b1, by rw [addBlock]; exact b2, by show w3.heap.size < W4.heap.size; omega, f5⟩
        have hN0 := HF3.out
        have HN1 := Lib.hid HF4.out.symm
        have hk0 : (0 : Int) ≤ (k : Int) := by omega
        have HW1 : Hid (IntKind.i64.wrap (sx + 1) = sx + 1) := IntWalk.i64_in _ (by omega)
        have HW2 : Hid (IntKind.i64.wrap (sy + 1) = sy + 1) := IntWalk.i64_in _ (by omega)
        have hkm : (k : Int) < m := by omega
        have hmm : (m == m) = true := by simp
        have hk1 : (k : Int) < (ps.length : Int) := by omega
        have hk2 : (k : Int) < (qs.length : Int) := by omega
        have hk3 : (k : Int) < ((pmZ ps qs).length : Int) := by omega
        have hk4 : (k : Int) < ((rw' (pmZ ps qs) k).length : Int) := by omega
        have hg1 : (((pmZ ps qs).length : Int) == (ps.length : Int)) = true := by rw [HLM]; simp
        have hg2 : (((rw' (pmZ ps qs) k).length : Int) == (ps.length : Int)) = true := by rw [HLR]; simp
        clear c3 c4 c1a c1b c2a c2b f1 f2 f3 f4 HF3 HF4 HMR HMS hB4 HM_4
        obtain ⟨pk, HPK⟩ : ∃ pk, Hid (pathsZ (px ps k) (py ps k) (px qs k) (py qs k) = pk) := ⟨_, rfl⟩
        have HB0 := Lib.hid (pathsZ_bd (sx + 1) sy (sx + 1 + dx3) (sy + 1 + dy4))
        have HB1 := Lib.hid (pathsZ_bd sx (sy + 1) (sx + 1 + dx3) (sy + 1 + dy4))
        obtain ⟨P0, HP0⟩ : ∃ P0, Hid (pathsZ sx sy (sx + 1 + dx3) (sy + 1 + dy4) = P0) := ⟨_, rfl⟩
        obtain ⟨P1, HP1⟩ : ∃ P1, Hid (pathsZ (sx + 1) sy (sx + 1 + dx3) (sy + 1 + dy4) = P1) := ⟨_, rfl⟩
        obtain ⟨P2, HP2⟩ : ∃ P2, Hid (pathsZ sx (sy + 1) (sx + 1 + dx3) (sy + 1 + dy4) = P2) := ⟨_, rfl⟩
        rw [HP0.out, HP1.out, HP2.out] at hpas
        rw [HP1.out] at HB0
        rw [HP2.out] at HB1
        rw [HPK.out] at HR0
        have HONE := Lib.hid hone
        have hsum : (P0 == P1 + P2) = true := by rw [hpas]; simp
        have hbd0 := HB0.out
        have hbd1 := HB1.out
        unfold Bd at hbd0 hbd1
        have hpe : (pk == pk) = true := by simp
        have hwp : IntKind.i64.wrap (P1 + P2) = P1 + P2 := IntWalk.i64_in _ (by omega)
        have hsum2 : (P0 == IntKind.i64.wrap (P1 + P2)) = true := by rw [hwp]; exact hsum
        obtain ⟨nf, HNF⟩ : ∃ nf, Hid (cfZ ps qs = nf) := ⟨_, rfl⟩
        rw [HNF.out] at hN0 HN1
        have hne : (nf == nf) = true := by simp
        rw [HNF.out]
        clear HB0 HB1 hone hpas HNF
        go_wp2_with fail
        refine wp_region_held_drew (S := fun w' => FamR W4 w' (ad3.add k) (ad4.add k) (ad1.add (k * 2)) (ad2.add (k * 2)) ⟨w3.heap.size, 0, none⟩ ⟨w3.heap.size + 1, 0, none⟩ (.slice (some ad4) (rw' (pmZ ps qs) k).length d4) pk (px ps k) (py ps k) (px qs k) (py qs k) sx sy (sx + 1 + dx3) (sy + 1 + dy4)) (by kernel_rfl) (by exact HR0.out) (fun hHeld => ?_)
        refine wpAnyH_take (i := 0) (v := ?vb0_1) (by rw [List.getElem?_toArray]; rfl) (by kernel_rfl) (by kernel_rfl) (by kernel_rfl) (by exact fun _ _ _ h => h) (Or.inl ⟨by rfl, ?hb0_1⟩) (by assumption) ?_
        case hb0_1 => (intro w hSw; (try dsimp only at hSw); go_simp; try with_reducible rfl)
        try simp only [Act.put, List.setIfInBounds_toArray, List.set_cons_zero, List.set_cons_succ]
        refine wpAnyH_take (i := 1) (v := ?vb1_2) (by rw [List.getElem?_toArray]; rfl) (by kernel_rfl) (by kernel_rfl) (by kernel_rfl) (by exact fun _ _ _ h => h) (Or.inl ⟨by rfl, ?hb1_2⟩) (by assumption) ?_
        case hb1_2 => (intro w hSw; (try dsimp only at hSw); go_simp; try with_reducible rfl)
        try simp only [Act.put, List.setIfInBounds_toArray, List.set_cons_zero, List.set_cons_succ]
        refine wpAnyH_ready (rs := [2]) (by kernel_rfl) (by simp) ?_
        refine (AllReadyH.cons (by rw [List.getElem?_toArray]; rfl) (fun K hK => ?_) AllReadyH.nil)
        go_simp
        go_at_call 20; refine (AreNested_any _ _ ps qs _ _ (HP1_4.out.below hHeld.b) (HP2_4.out.below hHeld.b) hHeld.b.size).mono ?_; rintro e w5 ⟨rfl, hb5⟩; rw [HF1.out]
        refine hK.out _ _ (by exact FamR.keep HFB.out hb5 hHeld) (fun hHeld => ?_)
        clear hK K
        try simp only [Act.put, List.setIfInBounds_toArray, List.set_cons_zero, List.set_cons_succ]
        refine wpAnyH_take (i := 3) (v := ?vb3_3) (by rw [List.getElem?_toArray]; rfl) (by kernel_rfl) (by kernel_rfl) (by kernel_rfl) (by exact fun _ _ _ h => h) (Or.inl ⟨by rfl, ?hb3_3⟩) (by assumption) ?_
        case hb3_3 => (intro w hSw; (try dsimp only at hSw); go_simp; try with_reducible rfl)
        try simp only [Act.put, List.setIfInBounds_toArray, List.set_cons_zero, List.set_cons_succ]
        refine wpAnyH_take (i := 4) (v := ?vb4_4) (by rw [List.getElem?_toArray]; rfl) (by kernel_rfl) (by kernel_rfl) (by kernel_rfl) (by exact fun _ _ _ h => h) (Or.inl ⟨by rfl, ?hb4_4⟩) (by assumption) ?_
        case hb4_4 => (intro w hSw; (try dsimp only at hSw); go_simp; try with_reducible rfl)
        try simp only [Act.put, List.setIfInBounds_toArray, List.set_cons_zero, List.set_cons_succ]
        refine wpAnyH_take (i := 5) (v := ?vb5_5) (by rw [List.getElem?_toArray]; rfl) (by kernel_rfl) (by kernel_rfl) (by kernel_rfl) (by exact fun _ _ _ h => h) (Or.inl ⟨by rfl, ?hb5_5⟩) (by assumption) ?_
        case hb5_5 => (intro w hSw; (try dsimp only at hSw); go_simp; try with_reducible rfl)
        try simp only [Act.put, List.setIfInBounds_toArray, List.set_cons_zero, List.set_cons_succ]
        refine wpAnyH_ready (rs := [6]) (by kernel_rfl) (by simp) ?_
        refine (AllReadyH.cons (by rw [List.getElem?_toArray]; rfl) (fun K hK => ?_) AllReadyH.nil)
        go_simp
        go_at_call 21; refine (SpotsOk_any _ _ ps qs _ _ (HP1_4.out.below hHeld.b) (HP2_4.out.below hHeld.b) hHeld.b.size).mono ?_; rintro e w5 ⟨rfl, hb5⟩; rw [HF2.out]
        refine hK.out _ _ (by exact FamR.keep HFB.out hb5 hHeld) (fun hHeld => ?_)
        clear hK K
        try simp only [Act.put, List.setIfInBounds_toArray, List.set_cons_zero, List.set_cons_succ]
        refine wpAnyH_take (i := 7) (v := ?vb7_6) (by rw [List.getElem?_toArray]; rfl) (by kernel_rfl) (by kernel_rfl) (by kernel_rfl) (by exact fun _ _ _ h => h) (Or.inl ⟨by rfl, ?hb7_6⟩) (by assumption) ?_
        case hb7_6 => (intro w hSw; (try dsimp only at hSw); go_simp; try with_reducible rfl)
        try simp only [Act.put, List.setIfInBounds_toArray, List.set_cons_zero, List.set_cons_succ]
        refine wpAnyH_take (i := 8) (v := ?vb8_7) (by rw [List.getElem?_toArray]; rfl) (by kernel_rfl) (by kernel_rfl) (by kernel_rfl) (by exact fun _ _ _ h => h) (Or.inl ⟨by rfl, ?hb8_7⟩) (by assumption) ?_
        case hb8_7 => (intro w hSw; (try dsimp only at hSw); go_simp; try with_reducible rfl)
        try simp only [Act.put, List.setIfInBounds_toArray, List.set_cons_zero, List.set_cons_succ]
        as_aux_lemma =>
          refine wpAnyH_take (i := 9) (v := ?vb9_8) (by rw [List.getElem?_toArray]; rfl) (by kernel_rfl) (by kernel_rfl) (by kernel_rfl) (by exact fun _ _ _ h => h) (Or.inl ⟨by rfl, ?hb9_8⟩) (by assumption) ?_
          case hb9_8 => (intro w hSw; (try dsimp only at hSw); go_simp; try with_reducible rfl)
          try simp only [Act.put, List.setIfInBounds_toArray, List.set_cons_zero, List.set_cons_succ]
          refine wpAnyH_take (i := 10) (v := ?vb10_9) (by rw [List.getElem?_toArray]; rfl) (by kernel_rfl) (by kernel_rfl) (by kernel_rfl) (by exact fun _ _ _ h => h) (Or.inl ⟨by rfl, ?hb10_9⟩) (by assumption) ?_
          case hb10_9 => (intro w hSw; (try dsimp only at hSw); go_simp; try with_reducible rfl)
          try simp only [Act.put, List.setIfInBounds_toArray, List.set_cons_zero, List.set_cons_succ]
          refine wpAnyH_take (i := 11) (v := ?vb11_10) (by rw [List.getElem?_toArray]; rfl) (by kernel_rfl) (by kernel_rfl) (by kernel_rfl) (by exact fun _ _ _ h => h) (Or.inl ⟨by rfl, ?hb11_10⟩) (by assumption) ?_
          case hb11_10 => (intro w hSw; (try dsimp only at hSw); go_simp; try with_reducible rfl)
          try simp only [Act.put, List.setIfInBounds_toArray, List.set_cons_zero, List.set_cons_succ]
          refine wpAnyH_take (i := 12) (v := ?vb12_11) (by rw [List.getElem?_toArray]; rfl) (by kernel_rfl) (by kernel_rfl) (by kernel_rfl) (by exact fun _ _ _ h => h) (Or.inl ⟨by rfl, ?hb12_11⟩) (by assumption) ?_
          case hb12_11 => (intro w hSw; (try dsimp only at hSw); go_simp; try with_reducible rfl)
          try simp only [Act.put, List.setIfInBounds_toArray, List.set_cons_zero, List.set_cons_succ]
          refine wpAnyH_take (i := 13) (v := ?vb13_12) (by rw [List.getElem?_toArray]; rfl) (by kernel_rfl) (by kernel_rfl) (by kernel_rfl) (by exact fun _ _ _ h => h) (Or.inl ⟨by rfl, ?hb13_12⟩) (by assumption) ?_
          case hb13_12 => (intro w hSw; (try dsimp only at hSw); go_simp; try with_reducible rfl)
          try simp only [Act.put, List.setIfInBounds_toArray, List.set_cons_zero, List.set_cons_succ]
          refine wpAnyH_take (i := 14) (v := ?vb14_13) (by rw [List.getElem?_toArray]; rfl) (by kernel_rfl) (by kernel_rfl) (by kernel_rfl) (by exact fun _ _ _ h => h) (Or.inl ⟨by rfl, ?hb14_13⟩) (by assumption) ?_
          case hb14_13 => (intro w hSw; (try dsimp only at hSw); go_simp; try with_reducible rfl)
          try simp only [Act.put, List.setIfInBounds_toArray, List.set_cons_zero, List.set_cons_succ]
          refine wpAnyH_take (i := 15) (v := ?vb15_14) (by rw [List.getElem?_toArray]; rfl) (by kernel_rfl) (by kernel_rfl) (by kernel_rfl) (by exact fun _ _ _ h => h) (Or.inl ⟨by rfl, ?hb15_14⟩) (by assumption) ?_
          case hb15_14 => (intro w hSw; (try dsimp only at hSw); go_simp; try with_reducible rfl)
          try simp only [Act.put, List.setIfInBounds_toArray, List.set_cons_zero, List.set_cons_succ]
          refine wpAnyH_ready (rs := [16]) (by kernel_rfl) (by simp) ?_
          refine (AllReadyH.cons (by rw [List.getElem?_toArray]; rfl) (fun K hK => ?_) AllReadyH.nil)
          go_simp
          go_at_call 22; refine (PathDeterminant_any _ _ ps qs _ _ (HP1_4.out.below hHeld.b) (HP2_4.out.below hHeld.b) hHeld.b.size).mono ?_; rintro e w5 ⟨rfl, hb5⟩; rw [HN1.out]
          refine hK.out _ _ (by exact FamR.keep HFB.out hb5 hHeld) (fun hHeld => ?_)
          clear hK K
          try simp only [Act.put, List.setIfInBounds_toArray, List.set_cons_zero, List.set_cons_succ]
          refine wpAnyH_take (i := 17) (v := ?vb17_15) (by rw [List.getElem?_toArray]; rfl) (by kernel_rfl) (by kernel_rfl) (by kernel_rfl) (by exact fun _ _ _ h => h) (Or.inl ⟨by rfl, ?hb17_15⟩) (by assumption) ?_
          case hb17_15 => (intro w hSw; (try dsimp only at hSw); go_simp; try with_reducible rfl)
          try simp only [Act.put, List.setIfInBounds_toArray, List.set_cons_zero, List.set_cons_succ]
          refine wpAnyH_take (i := 18) (v := ?vb18_16) (by rw [List.getElem?_toArray]; rfl) (by kernel_rfl) (by kernel_rfl) (by kernel_rfl) (by exact fun _ _ _ h => h) (Or.inl ⟨by rfl, ?hb18_16⟩) (by assumption) ?_
          case hb18_16 => (intro w hSw; (try dsimp only at hSw); go_simp; try with_reducible rfl)
          try simp only [Act.put, List.setIfInBounds_toArray, List.set_cons_zero, List.set_cons_succ]
          as_aux_lemma =>
            refine wpAnyH_take (i := 19) (v := ?vb19_17) (by rw [List.getElem?_toArray]; rfl) (by kernel_rfl) (by kernel_rfl) (by kernel_rfl) (by exact fun _ _ _ h => h) (Or.inl ⟨by rfl, ?hb19_17⟩) (by assumption) ?_
            case hb19_17 => (intro w hSw; (try dsimp only at hSw); go_simp; try with_reducible rfl)
            try simp only [Act.put, List.setIfInBounds_toArray, List.set_cons_zero, List.set_cons_succ]
            refine wpAnyH_take (i := 20) (v := ?vb20_18) (by rw [List.getElem?_toArray]; rfl) (by kernel_rfl) (by kernel_rfl) (by kernel_rfl) (by exact fun _ _ _ h => h) (Or.inl ⟨by rfl, ?hb20_18⟩) (by assumption) ?_
            case hb20_18 => (intro w hSw; (try dsimp only at hSw); go_simp; try with_reducible rfl)
            try simp only [Act.put, List.setIfInBounds_toArray, List.set_cons_zero, List.set_cons_succ]
            refine wpAnyH_take (i := 21) (v := ?vb21_19) (by rw [List.getElem?_toArray]; rfl) (by kernel_rfl) (by kernel_rfl) (by kernel_rfl) (by exact fun _ _ _ h => h) (Or.inl ⟨by rfl, ?hb21_19⟩) (by assumption) ?_
            case hb21_19 => (intro w hSw; (try dsimp only at hSw); go_simp; try with_reducible rfl)
            try simp only [Act.put, List.setIfInBounds_toArray, List.set_cons_zero, List.set_cons_succ]
            refine wpAnyH_take (i := 22) (v := ?vb22_20) (by rw [List.getElem?_toArray]; rfl) (by kernel_rfl) (by kernel_rfl) (by kernel_rfl) (by exact fun _ _ _ h => h) (Or.inl ⟨by rfl, ?hb22_20⟩) (by assumption) ?_
            case hb22_20 => (intro w hSw; (try dsimp only at hSw); go_simp; try with_reducible rfl)
            try simp only [Act.put, List.setIfInBounds_toArray, List.set_cons_zero, List.set_cons_succ]
            refine wpAnyH_take (i := 23) (v := ?vb23_21) (by rw [List.getElem?_toArray]; rfl) (by kernel_rfl) (by kernel_rfl) (by kernel_rfl) (by exact fun _ _ _ h => h) (Or.inl ⟨by rfl, ?hb23_21⟩) (by assumption) ?_
            case hb23_21 => (intro w hSw; (try dsimp only at hSw); go_simp; try with_reducible rfl)
            try simp only [Act.put, List.setIfInBounds_toArray, List.set_cons_zero, List.set_cons_succ]
            refine wpAnyH_take (i := 24) (v := ?vb24_22) (by rw [List.getElem?_toArray]; rfl) (by kernel_rfl) (by kernel_rfl) (by kernel_rfl) (by exact fun _ _ _ h => h) (Or.inl ⟨by rfl, ?hb24_22⟩) (by assumption) ?_
            case hb24_22 => (intro w hSw; (try dsimp only at hSw); go_simp; try with_reducible rfl)
            try simp only [Act.put, List.setIfInBounds_toArray, List.set_cons_zero, List.set_cons_succ]
            refine wpAnyH_take (i := 25) (v := ?vb25_23) (by rw [List.getElem?_toArray]; rfl) (by kernel_rfl) (by kernel_rfl) (by kernel_rfl) (by exact fun _ _ _ h => h) (Or.inl ⟨by rfl, ?hb25_23⟩) (by assumption) ?_
            case hb25_23 => (intro w hSw; (try dsimp only at hSw); go_simp; try with_reducible rfl)
            try simp only [Act.put, List.setIfInBounds_toArray, List.set_cons_zero, List.set_cons_succ]
            refine wpAnyH_take (i := 26) (v := ?vb26_24) (by rw [List.getElem?_toArray]; rfl) (by kernel_rfl) (by kernel_rfl) (by kernel_rfl) (by exact fun _ _ _ h => h) (Or.inl ⟨by rfl, ?hb26_24⟩) (by assumption) ?_
            case hb26_24 => (intro w hSw; (try dsimp only at hSw); go_simp; try with_reducible rfl)
            try simp only [Act.put, List.setIfInBounds_toArray, List.set_cons_zero, List.set_cons_succ]
            refine wpAnyH_take (i := 27) (v := ?vb27_25) (by rw [List.getElem?_toArray]; rfl) (by kernel_rfl) (by kernel_rfl) (by kernel_rfl) (by exact fun _ _ _ h => h) (Or.inl ⟨by rfl, ?hb27_25⟩) (by assumption) ?_
            case hb27_25 => (intro w hSw; (try dsimp only at hSw); go_simp; try with_reducible rfl)
            try simp only [Act.put, List.setIfInBounds_toArray, List.set_cons_zero, List.set_cons_succ]
            refine wpAnyH_take (i := 28) (v := ?vb28_26) (by rw [List.getElem?_toArray]; rfl) (by kernel_rfl) (by kernel_rfl) (by kernel_rfl) (by exact fun _ _ _ h => h) (Or.inl ⟨by rfl, ?hb28_26⟩) (by assumption) ?_
            case hb28_26 => (intro w hSw; (try dsimp only at hSw); go_simp; try with_reducible rfl)
            try simp only [Act.put, List.setIfInBounds_toArray, List.set_cons_zero, List.set_cons_succ]
            as_aux_lemma =>
              refine wpAnyH_take (i := 29) (v := ?vb29_27) (by rw [List.getElem?_toArray]; rfl) (by kernel_rfl) (by kernel_rfl) (by kernel_rfl) (by exact fun _ _ _ h => h) (Or.inl ⟨by rfl, ?hb29_27⟩) (by assumption) ?_
              case hb29_27 => (intro w hSw; (try dsimp only at hSw); go_simp; try with_reducible rfl)
              try simp only [Act.put, List.setIfInBounds_toArray, List.set_cons_zero, List.set_cons_succ]
              refine wpAnyH_take (i := 30) (v := ?vb30_28) (by rw [List.getElem?_toArray]; rfl) (by kernel_rfl) (by kernel_rfl) (by kernel_rfl) (by exact fun _ _ _ h => h) (Or.inl ⟨by rfl, ?hb30_28⟩) (by assumption) ?_
              case hb30_28 => (intro w hSw; (try dsimp only at hSw); obtain ⟨hA1, hA2, hA3, hA4, hA5, hA6, hA7, hA8, hA9, hA10, hA11⟩ := hSw; go_simp; try with_reducible rfl)
              try simp only [Act.put, List.setIfInBounds_toArray, List.set_cons_zero, List.set_cons_succ]
              refine wpAnyH_take (i := 31) (v := ?vb31_29) (by rw [List.getElem?_toArray]; rfl) (by kernel_rfl) (by kernel_rfl) (by kernel_rfl) (by exact fun _ _ _ h => h) (Or.inl ⟨by rfl, ?hb31_29⟩) (by assumption) ?_
              case hb31_29 => (intro w hSw; (try dsimp only at hSw); go_simp; try with_reducible rfl)
              try simp only [Act.put, List.setIfInBounds_toArray, List.set_cons_zero, List.set_cons_succ]
              refine wpAnyH_take (i := 32) (v := ?vb32_30) (by rw [List.getElem?_toArray]; rfl) (by kernel_rfl) (by kernel_rfl) (by kernel_rfl) (by exact fun _ _ _ h => h) (Or.inl ⟨by rfl, ?hb32_30⟩) (by assumption) ?_
              case hb32_30 => (intro w hSw; (try dsimp only at hSw); go_simp; try with_reducible rfl)
              try simp only [Act.put, List.setIfInBounds_toArray, List.set_cons_zero, List.set_cons_succ]
              refine wpAnyH_take (i := 33) (v := ?vb33_31) (by rw [List.getElem?_toArray]; rfl) (by kernel_rfl) (by kernel_rfl) (by kernel_rfl) (by exact fun _ _ _ h => h) (Or.inl ⟨by rfl, ?hb33_31⟩) (by assumption) ?_
              case hb33_31 => (intro w hSw; (try dsimp only at hSw); go_simp; try with_reducible rfl)
              try simp only [Act.put, List.setIfInBounds_toArray, List.set_cons_zero, List.set_cons_succ]
              refine wpAnyH_take (i := 34) (v := ?vb34_32) (by rw [List.getElem?_toArray]; rfl) (by kernel_rfl) (by kernel_rfl) (by kernel_rfl) (by exact fun _ _ _ h => h) (Or.inl ⟨by rfl, ?hb34_32⟩) (by assumption) ?_
              case hb34_32 => (intro w hSw; (try dsimp only at hSw); go_simp; try with_reducible rfl)
              try simp only [Act.put, List.setIfInBounds_toArray, List.set_cons_zero, List.set_cons_succ]
              refine wpAnyH_take (i := 35) (v := ?vb35_33) (by rw [List.getElem?_toArray]; rfl) (by kernel_rfl) (by kernel_rfl) (by kernel_rfl) (by exact fun _ _ _ h => h) (Or.inl ⟨by rfl, ?hb35_33⟩) (by assumption) ?_
              case hb35_33 => (intro w hSw; (try dsimp only at hSw); go_simp; try with_reducible rfl)
              try simp only [Act.put, List.setIfInBounds_toArray, List.set_cons_zero, List.set_cons_succ]
              refine wpAnyH_take (i := 36) (v := ?vb36_34) (by rw [List.getElem?_toArray]; rfl) (by kernel_rfl) (by kernel_rfl) (by kernel_rfl) (by exact fun _ _ _ h => h) (Or.inl ⟨by rfl, ?hb36_34⟩) (by assumption) ?_
              case hb36_34 => (intro w hSw; (try dsimp only at hSw); go_simp; try with_reducible rfl)
              try simp only [Act.put, List.setIfInBounds_toArray, List.set_cons_zero, List.set_cons_succ]
              refine wpAnyH_take (i := 37) (v := ?vb37_35) (by rw [List.getElem?_toArray]; rfl) (by kernel_rfl) (by kernel_rfl) (by kernel_rfl) (by exact fun _ _ _ h => h) (Or.inl ⟨by rfl, ?hb37_35⟩) (by assumption) ?_
              case hb37_35 => (intro w hSw; (try dsimp only at hSw); go_simp; try with_reducible rfl)
              try simp only [Act.put, List.setIfInBounds_toArray, List.set_cons_zero, List.set_cons_succ]
              refine wpAnyH_take (i := 38) (v := ?vb38_36) (by rw [List.getElem?_toArray]; rfl) (by kernel_rfl) (by kernel_rfl) (by kernel_rfl) (by exact fun _ _ _ h => h) (Or.inl ⟨by rfl, ?hb38_36⟩) (by assumption) ?_
              case hb38_36 => (intro w hSw; (try dsimp only at hSw); go_simp; try with_reducible rfl)
              try simp only [Act.put, List.setIfInBounds_toArray, List.set_cons_zero, List.set_cons_succ]
              as_aux_lemma =>
                refine wpAnyH_take (i := 39) (v := ?vb39_37) (by rw [List.getElem?_toArray]; rfl) (by kernel_rfl) (by kernel_rfl) (by kernel_rfl) (by exact fun _ _ _ h => h) (Or.inl ⟨by rfl, ?hb39_37⟩) (by assumption) ?_
                case hb39_37 => (intro w hSw; (try dsimp only at hSw); go_simp; try with_reducible rfl)
                try simp only [Act.put, List.setIfInBounds_toArray, List.set_cons_zero, List.set_cons_succ]
                refine wpAnyH_take (i := 40) (v := ?vb40_38) (by rw [List.getElem?_toArray]; rfl) (by kernel_rfl) (by kernel_rfl) (by kernel_rfl) (by exact fun _ _ _ h => h) (Or.inl ⟨by rfl, ?hb40_38⟩) (by assumption) ?_
                case hb40_38 => (intro w hSw; (try dsimp only at hSw); obtain ⟨hA1, hA2, hA3, hA4, hA5, hA6, hA7, hA8, hA9, hA10, hA11⟩ := hSw; go_simp; try with_reducible rfl)
                try simp only [Act.put, List.setIfInBounds_toArray, List.set_cons_zero, List.set_cons_succ]
                refine wpAnyH_take (i := 41) (v := ?vb41_39) (by rw [List.getElem?_toArray]; rfl) (by kernel_rfl) (by kernel_rfl) (by kernel_rfl) (by exact fun _ _ _ h => h) (Or.inl ⟨by rfl, ?hb41_39⟩) (by assumption) ?_
                case hb41_39 => (intro w hSw; (try dsimp only at hSw); go_simp; try with_reducible rfl)
                try simp only [Act.put, List.setIfInBounds_toArray, List.set_cons_zero, List.set_cons_succ]
                refine wpAnyH_take (i := 42) (v := ?vb42_40) (by rw [List.getElem?_toArray]; rfl) (by kernel_rfl) (by kernel_rfl) (by kernel_rfl) (by exact fun _ _ _ h => h) (Or.inl ⟨by rfl, ?hb42_40⟩) (by assumption) ?_
                case hb42_40 => (intro w hSw; (try dsimp only at hSw); go_simp; try with_reducible rfl)
                try simp only [Act.put, List.setIfInBounds_toArray, List.set_cons_zero, List.set_cons_succ]
                refine wpAnyH_take (i := 43) (v := ?vb43_41) (by rw [List.getElem?_toArray]; rfl) (by kernel_rfl) (by kernel_rfl) (by kernel_rfl) (by exact fun _ _ _ h => h) (Or.inl ⟨by rfl, ?hb43_41⟩) (by assumption) ?_
                case hb43_41 => (intro w hSw; (try dsimp only at hSw); obtain ⟨hA1, hA2, hA3, hA4, hA5, hA6, hA7, hA8, hA9, hA10, hA11⟩ := hSw; go_simp; try with_reducible rfl)
                try simp only [Act.put, List.setIfInBounds_toArray, List.set_cons_zero, List.set_cons_succ]
                refine wpAnyH_take (i := 44) (v := ?vb44_42) (by rw [List.getElem?_toArray]; rfl) (by kernel_rfl) (by kernel_rfl) (by kernel_rfl) (by exact fun _ _ _ h => h) (Or.inl ⟨by rfl, ?hb44_42⟩) (by assumption) ?_
                case hb44_42 => (intro w hSw; (try dsimp only at hSw); go_simp; try with_reducible rfl)
                try simp only [Act.put, List.setIfInBounds_toArray, List.set_cons_zero, List.set_cons_succ]
                refine wpAnyH_take (i := 45) (v := ?vb45_43) (by rw [List.getElem?_toArray]; rfl) (by kernel_rfl) (by kernel_rfl) (by kernel_rfl) (by exact fun _ _ _ h => h) (Or.inl ⟨by rfl, ?hb45_43⟩) (by assumption) ?_
                case hb45_43 => (intro w hSw; (try dsimp only at hSw); go_simp; try with_reducible rfl)
                try simp only [Act.put, List.setIfInBounds_toArray, List.set_cons_zero, List.set_cons_succ]
                refine wpAnyH_take (i := 46) (v := ?vb46_44) (by rw [List.getElem?_toArray]; rfl) (by kernel_rfl) (by kernel_rfl) (by kernel_rfl) (by exact fun _ _ _ h => h) (Or.inl ⟨by rfl, ?hb46_44⟩) (by assumption) ?_
                case hb46_44 => (intro w hSw; (try dsimp only at hSw); go_simp; try with_reducible rfl)
                try simp only [Act.put, List.setIfInBounds_toArray, List.set_cons_zero, List.set_cons_succ]
                refine wpAnyH_take (i := 47) (v := ?vb47_45) (by rw [List.getElem?_toArray]; rfl) (by kernel_rfl) (by kernel_rfl) (by kernel_rfl) (by exact fun _ _ _ h => h) (Or.inl ⟨by rfl, ?hb47_45⟩) (by assumption) ?_
                case hb47_45 => (intro w hSw; (try dsimp only at hSw); obtain ⟨hA1, hA2, hA3, hA4, hA5, hA6, hA7, hA8, hA9, hA10, hA11⟩ := hSw; go_simp; try with_reducible rfl)
                try simp only [Act.put, List.setIfInBounds_toArray, List.set_cons_zero, List.set_cons_succ]
                refine wpAnyH_take (i := 48) (v := ?vb48_46) (by rw [List.getElem?_toArray]; rfl) (by kernel_rfl) (by kernel_rfl) (by kernel_rfl) (by exact fun _ _ _ h => h) (Or.inl ⟨by rfl, ?hb48_46⟩) (by assumption) ?_
                case hb48_46 => (intro w hSw; (try dsimp only at hSw); go_simp; try with_reducible rfl)
                try simp only [Act.put, List.setIfInBounds_toArray, List.set_cons_zero, List.set_cons_succ]
                as_aux_lemma =>
                  refine wpAnyH_take (i := 49) (v := ?vb49_47) (by rw [List.getElem?_toArray]; rfl) (by kernel_rfl) (by kernel_rfl) (by kernel_rfl) (by exact fun _ _ _ h => h) (Or.inl ⟨by rfl, ?hb49_47⟩) (by assumption) ?_
                  case hb49_47 => (intro w hSw; (try dsimp only at hSw); go_simp; try with_reducible rfl)
                  try simp only [Act.put, List.setIfInBounds_toArray, List.set_cons_zero, List.set_cons_succ]
                  refine wpAnyH_take (i := 50) (v := ?vb50_48) (by rw [List.getElem?_toArray]; rfl) (by kernel_rfl) (by kernel_rfl) (by kernel_rfl) (by exact fun _ _ _ h => h) (Or.inl ⟨by rfl, ?hb50_48⟩) (by assumption) ?_
                  case hb50_48 => (intro w hSw; (try dsimp only at hSw); go_simp; try with_reducible rfl)
                  try simp only [Act.put, List.setIfInBounds_toArray, List.set_cons_zero, List.set_cons_succ]
                  refine wpAnyH_take (i := 51) (v := ?vb51_49) (by rw [List.getElem?_toArray]; rfl) (by kernel_rfl) (by kernel_rfl) (by kernel_rfl) (by exact fun _ _ _ h => h) (Or.inl ⟨by rfl, ?hb51_49⟩) (by assumption) ?_
                  case hb51_49 => (intro w hSw; (try dsimp only at hSw); obtain ⟨hA1, hA2, hA3, hA4, hA5, hA6, hA7, hA8, hA9, hA10, hA11⟩ := hSw; go_simp; try with_reducible rfl)
                  try simp only [Act.put, List.setIfInBounds_toArray, List.set_cons_zero, List.set_cons_succ]
                  refine wpAnyH_ready (rs := [52]) (by kernel_rfl) (by simp) ?_
                  refine (AllReadyH.cons (by rw [List.getElem?_toArray]; rfl) (fun K hK => ?_) AllReadyH.nil)
                  go_simp
                  go_at_call 23; refine (CountPaths_any _ _ _ _ _).mono ?_; rintro e w5 ⟨rfl, hb5⟩; rw [HPK.out]
                  refine hK.out _ _ (by exact FamR.keep HFB.out hb5 hHeld) (fun hHeld => ?_)
                  clear hK K
                  try simp only [Act.put, List.setIfInBounds_toArray, List.set_cons_zero, List.set_cons_succ]
                  refine wpAnyH_take (i := 53) (v := ?vb53_50) (by rw [List.getElem?_toArray]; rfl) (by kernel_rfl) (by kernel_rfl) (by kernel_rfl) (by exact fun _ _ _ h => h) (Or.inl ⟨by rfl, ?hb53_50⟩) (by assumption) ?_
                  case hb53_50 => (intro w hSw; (try dsimp only at hSw); go_simp; try with_reducible rfl)
                  try simp only [Act.put, List.setIfInBounds_toArray, List.set_cons_zero, List.set_cons_succ]
                  refine wpAnyH_take (i := 54) (v := ?vb54_51) (by rw [List.getElem?_toArray]; rfl) (by kernel_rfl) (by kernel_rfl) (by kernel_rfl) (by exact fun _ _ _ h => h) (Or.inl ⟨by rfl, ?hb54_51⟩) (by assumption) ?_
                  case hb54_51 => (intro w hSw; (try dsimp only at hSw); go_simp; try with_reducible rfl)
                  try simp only [Act.put, List.setIfInBounds_toArray, List.set_cons_zero, List.set_cons_succ]
                  refine wpAnyH_take (i := 55) (v := ?vb55_52) (by rw [List.getElem?_toArray]; rfl) (by kernel_rfl) (by kernel_rfl) (by kernel_rfl) (by exact fun _ _ _ h => h) (Or.inl ⟨by rfl, ?hb55_52⟩) (by assumption) ?_
                  case hb55_52 => (intro w hSw; (try dsimp only at hSw); go_simp; try with_reducible rfl)
                  try simp only [Act.put, List.setIfInBounds_toArray, List.set_cons_zero, List.set_cons_succ]
                  refine wpAnyH_take (i := 56) (v := ?vb56_53) (by rw [List.getElem?_toArray]; rfl) (by kernel_rfl) (by kernel_rfl) (by kernel_rfl) (by exact fun _ _ _ h => h) (Or.inl ⟨by rfl, ?hb56_53⟩) (by assumption) ?_
                  case hb56_53 => (intro w hSw; (try dsimp only at hSw); obtain ⟨hA1, hA2, hA3, hA4, hA5, hA6, hA7, hA8, hA9, hA10, hA11⟩ := hSw; go_simp; try with_reducible rfl)
                  try simp only [Act.put, List.setIfInBounds_toArray, List.set_cons_zero, List.set_cons_succ]
                  refine wpAnyH_take (i := 57) (v := ?vb57_54) (by rw [List.getElem?_toArray]; rfl) (by kernel_rfl) (by kernel_rfl) (by kernel_rfl) (by exact fun _ _ _ h => h) (Or.inl ⟨by rfl, ?hb57_54⟩) (by assumption) ?_
                  case hb57_54 => (intro w hSw; (try dsimp only at hSw); obtain ⟨hA1, hA2, hA3, hA4, hA5, hA6, hA7, hA8, hA9, hA10, hA11⟩ := hSw; go_simp; try with_reducible rfl)
                  try simp only [Act.put, List.setIfInBounds_toArray, List.set_cons_zero, List.set_cons_succ]
                  refine wpAnyH_take (i := 59) (v := ?vb59_55) (by rw [List.getElem?_toArray]; rfl) (by kernel_rfl) (by kernel_rfl) (by kernel_rfl) (by exact fun _ _ _ h => h) (Or.inl ⟨by rfl, ?hb59_55⟩) (by assumption) ?_
                  case hb59_55 => (intro w hSw; (try dsimp only at hSw); go_simp; try with_reducible rfl)
                  try simp only [Act.put, List.setIfInBounds_toArray, List.set_cons_zero, List.set_cons_succ]
                  as_aux_lemma =>
                    refine wpAnyH_take (i := 60) (v := ?vb60_56) (by rw [List.getElem?_toArray]; rfl) (by kernel_rfl) (by kernel_rfl) (by kernel_rfl) (by exact fun _ _ _ h => h) (Or.inl ⟨by rfl, ?hb60_56⟩) (by assumption) ?_
                    case hb60_56 => (intro w hSw; (try dsimp only at hSw); obtain ⟨hA1, hA2, hA3, hA4, hA5, hA6, hA7, hA8, hA9, hA10, hA11⟩ := hSw; go_simp; try with_reducible rfl)
                    try simp only [Act.put, List.setIfInBounds_toArray, List.set_cons_zero, List.set_cons_succ]
                    refine wpAnyH_take (i := 61) (v := ?vb61_57) (by rw [List.getElem?_toArray]; rfl) (by kernel_rfl) (by kernel_rfl) (by kernel_rfl) (by exact fun _ _ _ h => h) (Or.inl ⟨by rfl, ?hb61_57⟩) (by assumption) ?_
                    case hb61_57 => (intro w hSw; (try dsimp only at hSw); go_simp; try with_reducible rfl)
                    try simp only [Act.put, List.setIfInBounds_toArray, List.set_cons_zero, List.set_cons_succ]
                    refine wpAnyH_take (i := 62) (v := ?vb62_58) (by rw [List.getElem?_toArray]; rfl) (by kernel_rfl) (by kernel_rfl) (by kernel_rfl) (by exact fun _ _ _ h => h) (Or.inl ⟨by rfl, ?hb62_58⟩) (by assumption) ?_
                    case hb62_58 => (intro w hSw; (try dsimp only at hSw); go_simp; try with_reducible rfl)
                    try simp only [Act.put, List.setIfInBounds_toArray, List.set_cons_zero, List.set_cons_succ]
                    refine wpAnyH_take (i := 63) (v := ?vb63_59) (by rw [List.getElem?_toArray]; rfl) (by kernel_rfl) (by kernel_rfl) (by kernel_rfl) (by exact fun _ _ _ h => h) (Or.inl ⟨by rfl, ?hb63_59⟩) (by assumption) ?_
                    case hb63_59 => (intro w hSw; (try dsimp only at hSw); obtain ⟨hA1, hA2, hA3, hA4, hA5, hA6, hA7, hA8, hA9, hA10, hA11⟩ := hSw; go_simp; try with_reducible rfl)
                    try simp only [Act.put, List.setIfInBounds_toArray, List.set_cons_zero, List.set_cons_succ]
                    refine wpAnyH_take (i := 64) (v := ?vb64_60) (by rw [List.getElem?_toArray]; rfl) (by kernel_rfl) (by kernel_rfl) (by kernel_rfl) (by exact fun _ _ _ h => h) (Or.inl ⟨by rfl, ?hb64_60⟩) (by assumption) ?_
                    case hb64_60 => (intro w hSw; (try dsimp only at hSw); go_simp; try with_reducible rfl)
                    try simp only [Act.put, List.setIfInBounds_toArray, List.set_cons_zero, List.set_cons_succ]
                    refine wpAnyH_take (i := 65) (v := ?vb65_61) (by rw [List.getElem?_toArray]; rfl) (by kernel_rfl) (by kernel_rfl) (by kernel_rfl) (by exact fun _ _ _ h => h) (Or.inl ⟨by rfl, ?hb65_61⟩) (by assumption) ?_
                    case hb65_61 => (intro w hSw; (try dsimp only at hSw); obtain ⟨hA1, hA2, hA3, hA4, hA5, hA6, hA7, hA8, hA9, hA10, hA11⟩ := hSw; go_simp; try with_reducible rfl)
                    try simp only [Act.put, List.setIfInBounds_toArray, List.set_cons_zero, List.set_cons_succ]
                    refine wpAnyH_take (i := 67) (v := ?vb67_62) (by rw [List.getElem?_toArray]; rfl) (by kernel_rfl) (by kernel_rfl) (by kernel_rfl) (by exact fun _ _ _ h => h) (Or.inl ⟨by rfl, ?hb67_62⟩) (by assumption) ?_
                    case hb67_62 => (intro w hSw; (try dsimp only at hSw); go_simp; try with_reducible rfl)
                    try simp only [Act.put, List.setIfInBounds_toArray, List.set_cons_zero, List.set_cons_succ]
                    refine wpAnyH_take (i := 68) (v := ?vb68_63) (by rw [List.getElem?_toArray]; rfl) (by kernel_rfl) (by kernel_rfl) (by kernel_rfl) (by exact fun _ _ _ h => h) (Or.inl ⟨by rfl, ?hb68_63⟩) (by assumption) ?_
                    case hb68_63 => (intro w hSw; (try dsimp only at hSw); obtain ⟨hA1, hA2, hA3, hA4, hA5, hA6, hA7, hA8, hA9, hA10, hA11⟩ := hSw; go_simp; try with_reducible rfl)
                    try simp only [Act.put, List.setIfInBounds_toArray, List.set_cons_zero, List.set_cons_succ]
                    refine wpAnyH_take (i := 69) (v := ?vb69_64) (by rw [List.getElem?_toArray]; rfl) (by kernel_rfl) (by kernel_rfl) (by kernel_rfl) (by exact fun _ _ _ h => h) (Or.inl ⟨by rfl, ?hb69_64⟩) (by assumption) ?_
                    case hb69_64 => (intro w hSw; (try dsimp only at hSw); go_simp; try with_reducible rfl)
                    try simp only [Act.put, List.setIfInBounds_toArray, List.set_cons_zero, List.set_cons_succ]
                    refine wpAnyH_take (i := 70) (v := ?vb70_65) (by rw [List.getElem?_toArray]; rfl) (by kernel_rfl) (by kernel_rfl) (by kernel_rfl) (by exact fun _ _ _ h => h) (Or.inl ⟨by rfl, ?hb70_65⟩) (by assumption) ?_
                    case hb70_65 => (intro w hSw; (try dsimp only at hSw); obtain ⟨hA1, hA2, hA3, hA4, hA5, hA6, hA7, hA8, hA9, hA10, hA11⟩ := hSw; go_simp; try with_reducible rfl)
                    try simp only [Act.put, List.setIfInBounds_toArray, List.set_cons_zero, List.set_cons_succ]
                    as_aux_lemma =>
                      refine wpAnyH_take (i := 71) (v := ?vb71_66) (by rw [List.getElem?_toArray]; rfl) (by kernel_rfl) (by kernel_rfl) (by kernel_rfl) (by exact fun _ _ _ h => h) (Or.inl ⟨by rfl, ?hb71_66⟩) (by assumption) ?_
                      case hb71_66 => (intro w hSw; (try dsimp only at hSw); go_simp; try with_reducible rfl)
                      try simp only [Act.put, List.setIfInBounds_toArray, List.set_cons_zero, List.set_cons_succ]
                      refine wpAnyH_take (i := 72) (v := ?vb72_67) (by rw [List.getElem?_toArray]; rfl) (by kernel_rfl) (by kernel_rfl) (by kernel_rfl) (by exact fun _ _ _ h => h) (Or.inl ⟨by rfl, ?hb72_67⟩) (by assumption) ?_
                      case hb72_67 => (intro w hSw; (try dsimp only at hSw); go_simp; try with_reducible rfl)
                      try simp only [Act.put, List.setIfInBounds_toArray, List.set_cons_zero, List.set_cons_succ]
                      refine wpAnyH_take (i := 73) (v := ?vb73_68) (by rw [List.getElem?_toArray]; rfl) (by kernel_rfl) (by kernel_rfl) (by kernel_rfl) (by exact fun _ _ _ h => h) (Or.inl ⟨by rfl, ?hb73_68⟩) (by assumption) ?_
                      case hb73_68 => (intro w hSw; (try dsimp only at hSw); obtain ⟨hA1, hA2, hA3, hA4, hA5, hA6, hA7, hA8, hA9, hA10, hA11⟩ := hSw; go_simp; try with_reducible rfl)
                      try simp only [Act.put, List.setIfInBounds_toArray, List.set_cons_zero, List.set_cons_succ]
                      refine wpAnyH_ready (rs := [58]) (by kernel_rfl) (by simp) ?_
                      refine (AllReadyH.cons (by rw [List.getElem?_toArray]; rfl) (fun K hK => ?_) AllReadyH.nil)
                      go_simp
                      go_at_call 23; refine (CountPaths_any _ _ _ _ _).mono ?_; rintro e w5 ⟨rfl, hb5⟩; rw [HP0.out]
                      refine hK.out _ _ (by exact FamR.keep HFB.out hb5 hHeld) (fun hHeld => ?_)
                      clear hK K
                      try simp only [Act.put, List.setIfInBounds_toArray, List.set_cons_zero, List.set_cons_succ]
                      refine wpAnyH_ready (rs := [66]) (by kernel_rfl) (by simp) ?_
                      refine (AllReadyH.cons (by rw [List.getElem?_toArray]; rfl) (fun K hK => ?_) AllReadyH.nil)
                      go_simp
                      go_at_call 23; refine (CountPaths_any _ _ _ _ _).mono ?_; rintro e w5 ⟨rfl, hb5⟩; rw [HW1.out, HP1.out]
                      refine hK.out _ _ (by exact FamR.keep HFB.out hb5 hHeld) (fun hHeld => ?_)
                      clear hK K
                      try simp only [Act.put, List.setIfInBounds_toArray, List.set_cons_zero, List.set_cons_succ]
                      refine wpAnyH_ready (rs := [74]) (by kernel_rfl) (by simp) ?_
                      refine (AllReadyH.cons (by rw [List.getElem?_toArray]; rfl) (fun K hK => ?_) AllReadyH.nil)
                      go_simp
                      go_at_call 23; refine (CountPaths_any _ _ _ _ _).mono ?_; rintro e w5 ⟨rfl, hb5⟩; rw [HW2.out, HP2.out]
                      refine hK.out _ _ (by exact FamR.keep HFB.out hb5 hHeld) (fun hHeld => ?_)
                      clear hK K
                      try simp only [Act.put, List.setIfInBounds_toArray, List.set_cons_zero, List.set_cons_succ]
                      refine wpAnyH_take (i := 75) (v := ?vb75_69) (by rw [List.getElem?_toArray]; rfl) (by kernel_rfl) (by kernel_rfl) (by kernel_rfl) (by exact fun _ _ _ h => h) (Or.inl ⟨by rfl, ?hb75_69⟩) (by assumption) ?_
                      case hb75_69 => (intro w hSw; (try dsimp only at hSw); go_simp; try with_reducible rfl)
                      try simp only [Act.put, List.setIfInBounds_toArray, List.set_cons_zero, List.set_cons_succ]
                      refine wpAnyH_take (i := 76) (v := ?vb76_70) (by rw [List.getElem?_toArray]; rfl) (by kernel_rfl) (by kernel_rfl) (by kernel_rfl) (by exact fun _ _ _ h => h) (Or.inl ⟨by rfl, ?hb76_70⟩) (by assumption) ?_
                      case hb76_70 => (intro w hSw; (try dsimp only at hSw); go_simp; try with_reducible rfl)
                      try simp only [Act.put, List.setIfInBounds_toArray, List.set_cons_zero, List.set_cons_succ]
                      refine wpAnyH_take (i := 77) (v := ?vb77_71) (by rw [List.getElem?_toArray]; rfl) (by kernel_rfl) (by kernel_rfl) (by kernel_rfl) (by exact fun _ _ _ h => h) (Or.inl ⟨by rfl, ?hb77_71⟩) (by assumption) ?_
                      case hb77_71 => (intro w hSw; (try dsimp only at hSw); go_simp; try with_reducible rfl)
                      try simp only [Act.put, List.setIfInBounds_toArray, List.set_cons_zero, List.set_cons_succ]
                      refine wpAnyH_take (i := 78) (v := ?vb78_72) (by rw [List.getElem?_toArray]; rfl) (by kernel_rfl) (by kernel_rfl) (by kernel_rfl) (by exact fun _ _ _ h => h) (Or.inl ⟨by rfl, ?hb78_72⟩) (by assumption) ?_
                      case hb78_72 => (intro w hSw; (try dsimp only at hSw); go_simp; try with_reducible rfl)
                      try simp only [Act.put, List.setIfInBounds_toArray, List.set_cons_zero, List.set_cons_succ]
                      as_aux_lemma =>
                        refine wpAnyH_take (i := 79) (v := ?vb79_73) (by rw [List.getElem?_toArray]; rfl) (by kernel_rfl) (by kernel_rfl) (by kernel_rfl) (by exact fun _ _ _ h => h) (Or.inl ⟨by rfl, ?hb79_73⟩) (by assumption) ?_
                        case hb79_73 => (intro w hSw; (try dsimp only at hSw); obtain ⟨hA1, hA2, hA3, hA4, hA5, hA6, hA7, hA8, hA9, hA10, hA11⟩ := hSw; go_simp; try with_reducible rfl)
                        try simp only [Act.put, List.setIfInBounds_toArray, List.set_cons_zero, List.set_cons_succ]
                        refine wpAnyH_take (i := 80) (v := ?vb80_74) (by rw [List.getElem?_toArray]; rfl) (by kernel_rfl) (by kernel_rfl) (by kernel_rfl) (by exact fun _ _ _ h => h) (Or.inl ⟨by rfl, ?hb80_74⟩) (by assumption) ?_
                        case hb80_74 => (intro w hSw; (try dsimp only at hSw); obtain ⟨hA1, hA2, hA3, hA4, hA5, hA6, hA7, hA8, hA9, hA10, hA11⟩ := hSw; go_simp; try with_reducible rfl)
                        try simp only [Act.put, List.setIfInBounds_toArray, List.set_cons_zero, List.set_cons_succ]
                        refine wpAnyH_ready (rs := [81]) (by kernel_rfl) (by simp) ?_
                        refine (AllReadyH.cons (by rw [List.getElem?_toArray]; rfl) (fun K hK => ?_) AllReadyH.nil)
                        go_simp
                        go_at_call 23; refine (CountPaths_any _ _ _ _ _).mono ?_; rintro e w5 ⟨rfl, hb5⟩; rw [HONE.out]
                        refine hK.out _ _ (by exact FamR.keep HFB.out hb5 hHeld) (fun hHeld => ?_)
                        clear hK K
                        try simp only [Act.put, List.setIfInBounds_toArray, List.set_cons_zero, List.set_cons_succ]
                        refine wpAnyH_take (i := 82) (v := ?vb82_75) (by rw [List.getElem?_toArray]; rfl) (by kernel_rfl) (by kernel_rfl) (by kernel_rfl) (by exact fun _ _ _ h => h) (Or.inl ⟨by rfl, ?hb82_75⟩) (by assumption) ?_
                        case hb82_75 => (intro w hSw; (try dsimp only at hSw); go_simp; try with_reducible rfl)
                        try simp only [Act.put, List.setIfInBounds_toArray, List.set_cons_zero, List.set_cons_succ]
                        refine wpAnyH_take (i := 83) (v := ?vb83_76) (by rw [List.getElem?_toArray]; rfl) (by kernel_rfl) (by kernel_rfl) (by kernel_rfl) (by exact fun _ _ _ h => h) (Or.inl ⟨by rfl, ?hb83_76⟩) (by assumption) ?_
                        case hb83_76 => (intro w hSw; (try dsimp only at hSw); go_simp; try with_reducible rfl)
                        try simp only [Act.put, List.setIfInBounds_toArray, List.set_cons_zero, List.set_cons_succ]
                        refine wpAnyH_take (i := 84) (v := ?vb84_77) (by rw [List.getElem?_toArray]; rfl) (by kernel_rfl) (by kernel_rfl) (by kernel_rfl) (by exact fun _ _ _ h => h) (Or.inl ⟨by rfl, ?hb84_77⟩) (by assumption) ?_
                        case hb84_77 => (intro w hSw; (try dsimp only at hSw); go_simp; try with_reducible rfl)
                        try simp only [Act.put, List.setIfInBounds_toArray, List.set_cons_zero, List.set_cons_succ]
                        refine wpAnyH_done (by kernel_rfl) ?_ _
                        go_wp2_with fail
                        go_ret
                        exact ⟨rfl, HQ4.out.trans (hHeld.b.mono HQ4.out.size)⟩
    refine wp_region_held_drew (S := fun w' => PtS w w' w3.heap.size sx sy) (by kernel_rfl) (by exact HS0.out) (fun hHeld => ?_)
    refine wpAnyH_take (i := 0) (v := ?va0_1) (by rw [List.getElem?_toArray]; rfl) (by kernel_rfl) (by kernel_rfl) (by kernel_rfl) (by exact fun _ _ _ h => h) (Or.inl ⟨by rfl, ?ha0_1⟩) (by assumption) ?_
    case ha0_1 => (intro w hSw; (try dsimp only at hSw); go_simp; try with_reducible rfl)
    try simp only [Act.put, List.setIfInBounds_toArray, List.set_cons_zero, List.set_cons_succ]
    refine wpAnyH_take (i := 1) (v := ?va1_2) (by rw [List.getElem?_toArray]; rfl) (by kernel_rfl) (by kernel_rfl) (by kernel_rfl) (by exact fun _ _ _ h => h) (Or.inl ⟨by rfl, ?ha1_2⟩) (by assumption) ?_
    case ha1_2 => (intro w hSw; (try dsimp only at hSw); obtain ⟨hA1, hA2, hA3, hA4⟩ := hSw; go_simp; try with_reducible rfl)
    try simp only [Act.put, List.setIfInBounds_toArray, List.set_cons_zero, List.set_cons_succ]
    refine wpAnyH_take (i := 2) (v := ?va2_3) (by rw [List.getElem?_toArray]; rfl) (by kernel_rfl) (by kernel_rfl) (by kernel_rfl) (by exact fun _ _ _ h => h) (Or.inl ⟨by rfl, ?ha2_3⟩) (by assumption) ?_
    case ha2_3 => (intro w hSw; (try dsimp only at hSw); go_simp; try with_reducible rfl)
    try simp only [Act.put, List.setIfInBounds_toArray, List.set_cons_zero, List.set_cons_succ]
    refine wpAnyH_take (i := 3) (v := ?va3_4) (by rw [List.getElem?_toArray]; rfl) (by kernel_rfl) (by kernel_rfl) (by kernel_rfl) (by exact fun _ _ _ h => h) (Or.inl ⟨by rfl, ?ha3_4⟩) (by assumption) ?_
    case ha3_4 => (intro w hSw; (try dsimp only at hSw); go_simp; try with_reducible rfl)
    try simp only [Act.put, List.setIfInBounds_toArray, List.set_cons_zero, List.set_cons_succ]
    refine wpAnyH_take (i := 7) (v := ?va7_5) (by rw [List.getElem?_toArray]; rfl) (by kernel_rfl) (by kernel_rfl) (by kernel_rfl) (by exact fun _ _ _ h => h) (Or.inl ⟨by rfl, ?ha7_5⟩) (by assumption) ?_
    case ha7_5 => (intro w hSw; (try dsimp only at hSw); go_simp; try with_reducible rfl)
    try simp only [Act.put, List.setIfInBounds_toArray, List.set_cons_zero, List.set_cons_succ]
    refine wpAnyH_take (i := 8) (v := ?va8_6) (by rw [List.getElem?_toArray]; rfl) (by kernel_rfl) (by kernel_rfl) (by kernel_rfl) (by exact fun _ _ _ h => h) (Or.inl ⟨by rfl, ?ha8_6⟩) (by assumption) ?_
    case ha8_6 => (intro w hSw; (try dsimp only at hSw); obtain ⟨hA1, hA2, hA3, hA4⟩ := hSw; go_simp; try with_reducible rfl)
    try simp only [Act.put, List.setIfInBounds_toArray, List.set_cons_zero, List.set_cons_succ]
    refine wpAnyH_take (i := 9) (v := ?va9_7) (by rw [List.getElem?_toArray]; rfl) (by kernel_rfl) (by kernel_rfl) (by kernel_rfl) (by exact fun _ _ _ h => h) (Or.inl ⟨by rfl, ?ha9_7⟩) (by assumption) ?_
    case ha9_7 => (intro w hSw; (try dsimp only at hSw); go_simp; try with_reducible rfl)
    try simp only [Act.put, List.setIfInBounds_toArray, List.set_cons_zero, List.set_cons_succ]
    refine wpAnyH_take (i := 10) (v := ?va10_8) (by rw [List.getElem?_toArray]; rfl) (by kernel_rfl) (by kernel_rfl) (by kernel_rfl) (by exact fun _ _ _ h => h) (Or.inl ⟨by rfl, ?ha10_8⟩) (by assumption) ?_
    case ha10_8 => (intro w hSw; (try dsimp only at hSw); go_simp; try with_reducible rfl)
    try simp only [Act.put, List.setIfInBounds_toArray, List.set_cons_zero, List.set_cons_succ]
    refine wpAnyH_ready (rs := [4, 15]) (by kernel_rfl) (by simp) ?_
    refine (AllReadyH.cons (by rw [List.getElem?_toArray]; rfl) (fun K hK => ?_) (AllReadyH.cons (by rw [List.getElem?_toArray]; rfl) (fun K hK => ?_) AllReadyH.nil))
    · skip
      have HS := (show PtS w _ w3.heap.size sx sy from by assumption)
      go_simp
      go_at_call 19; refine (at_any _ n _ 3 _ (HU.out.below HS.2.2.2) (by omega) (by omega)).mono ?_; rintro e w' ⟨z3, z30, z31, rfl, rfl⟩
      refine hK.out _ _ (by assumption) (fun hHeld => ?_)
      clear hK K
      try simp only [Act.put, List.setIfInBounds_toArray, List.set_cons_zero, List.set_cons_succ]
      refine wpAnyH_take (i := 5) (v := ?va5_9) (by rw [List.getElem?_toArray]; rfl) (by kernel_rfl) (by kernel_rfl) (by kernel_rfl) (by exact fun _ _ _ h => h) (Or.inl ⟨by rfl, ?ha5_9⟩) (by assumption) ?_
      case ha5_9 => (intro w hSw; (try dsimp only at hSw); go_simp; try with_reducible rfl)
      try simp only [Act.put, List.setIfInBounds_toArray, List.set_cons_zero, List.set_cons_succ]
      refine wpAnyH_take (i := 6) (v := ?va6_10) (by rw [List.getElem?_toArray]; rfl) (by kernel_rfl) (by kernel_rfl) (by kernel_rfl) (by exact fun _ _ _ h => h) (Or.inl ⟨by rfl, ?ha6_10⟩) (by assumption) ?_
      case ha6_10 => (intro w hSw; (try dsimp only at hSw); go_simp; try with_reducible rfl)
      try simp only [Act.put, List.setIfInBounds_toArray, List.set_cons_zero, List.set_cons_succ]
      refine wpAnyH_ready (rs := [11, 15]) (by kernel_rfl) (by simp) ?_
      refine (AllReadyH.cons (by rw [List.getElem?_toArray]; rfl) (fun K hK => ?_) (AllReadyH.cons (by rw [List.getElem?_toArray]; rfl) (fun K hK => ?_) AllReadyH.nil))
      · skip
        have HS := (show PtS w _ w3.heap.size sx sy from by assumption)
        go_simp
        go_at_call 19; refine (at_any _ n _ 4 _ (HU.out.below HS.2.2.2) (by omega) (by omega)).mono ?_; rintro e w' ⟨z4, z40, z41, rfl, rfl⟩
        refine hK.out _ _ (by assumption) (fun hHeld => ?_)
        clear hK K
        try simp only [Act.put, List.setIfInBounds_toArray, List.set_cons_zero, List.set_cons_succ]
        refine wpAnyH_take (i := 12) (v := ?va12_11) (by rw [List.getElem?_toArray]; rfl) (by kernel_rfl) (by kernel_rfl) (by kernel_rfl) (by exact fun _ _ _ h => h) (Or.inl ⟨by rfl, ?ha12_11⟩) (by assumption) ?_
        case ha12_11 => (intro w hSw; (try dsimp only at hSw); go_simp; try with_reducible rfl)
        try simp only [Act.put, List.setIfInBounds_toArray, List.set_cons_zero, List.set_cons_succ]
        refine wpAnyH_take (i := 13) (v := ?va13_12) (by rw [List.getElem?_toArray]; rfl) (by kernel_rfl) (by kernel_rfl) (by kernel_rfl) (by exact fun _ _ _ h => h) (Or.inl ⟨by rfl, ?ha13_12⟩) (by assumption) ?_
        case ha13_12 => (intro w hSw; (try dsimp only at hSw); go_simp; try with_reducible rfl)
        try simp only [Act.put, List.setIfInBounds_toArray, List.set_cons_zero, List.set_cons_succ]
        refine wpAnyH_take (i := 14) (v := ?va14_13) (by rw [List.getElem?_toArray]; rfl) (by kernel_rfl) (by kernel_rfl) (by kernel_rfl) (by exact fun _ _ _ h => h) (Or.inl ⟨by rfl, ?ha14_13⟩) (by assumption) ?_
        case ha14_13 => (intro w hSw; (try dsimp only at hSw); go_simp; try with_reducible rfl)
        try simp only [Act.put, List.setIfInBounds_toArray, List.set_cons_zero, List.set_cons_succ]
        refine wpAnyH_ready (rs := [15]) (by kernel_rfl) (by simp) ?_
        refine (AllReadyH.cons (by rw [List.getElem?_toArray]; rfl) (fun K hK => ?_) AllReadyH.nil)
        go_wp2_with fail
        refine hK.out _ _ (by exact HE1.out _ _) (fun hHeld => ?_)
        clear hK K
        try simp only [Act.put, List.setIfInBounds_toArray, List.set_cons_zero, List.set_cons_succ]
        refine wpAnyH_ready (rs := [16]) (by kernel_rfl) (by simp) ?_
        refine (AllReadyH.cons (by rw [List.getElem?_toArray]; rfl) (fun K hK => ?_) AllReadyH.nil)
        go_wp2_with fail
        refine hK.out _ _ (by exact HE1.out _ _) (fun hHeld => ?_)
        clear hK K
        try simp only [Act.put, List.setIfInBounds_toArray, List.set_cons_zero, List.set_cons_succ]
        refine wpAnyH_done (by kernel_rfl) ?_ _
        exact HR _ _ z30 z31 z40 z41
      · skip
        go_wp2_with fail
        refine hK.out _ _ (by exact HE1.out _ _) (fun hHeld => ?_)
        clear hK K
        try simp only [Act.put, List.setIfInBounds_toArray, List.set_cons_zero, List.set_cons_succ]
        refine wpAnyH_ready (rs := [11]) (by kernel_rfl) (by simp) ?_
        refine (AllReadyH.cons (by rw [List.getElem?_toArray]; rfl) (fun K hK => ?_) AllReadyH.nil)
        have HS := (show PtS w _ w3.heap.size sx sy from by assumption)
        go_simp
        go_at_call 19; refine (at_any _ n _ 4 _ (HU.out.below HS.2.2.2) (by omega) (by omega)).mono ?_; rintro e w' ⟨z4, z40, z41, rfl, rfl⟩
        refine hK.out _ _ (by assumption) (fun hHeld => ?_)
        clear hK K
        try simp only [Act.put, List.setIfInBounds_toArray, List.set_cons_zero, List.set_cons_succ]
        refine wpAnyH_take (i := 12) (v := ?va12_14) (by rw [List.getElem?_toArray]; rfl) (by kernel_rfl) (by kernel_rfl) (by kernel_rfl) (by exact fun _ _ _ h => h) (Or.inl ⟨by rfl, ?ha12_14⟩) (by assumption) ?_
        case ha12_14 => (intro w hSw; (try dsimp only at hSw); go_simp; try with_reducible rfl)
        try simp only [Act.put, List.setIfInBounds_toArray, List.set_cons_zero, List.set_cons_succ]
        refine wpAnyH_take (i := 13) (v := ?va13_15) (by rw [List.getElem?_toArray]; rfl) (by kernel_rfl) (by kernel_rfl) (by kernel_rfl) (by exact fun _ _ _ h => h) (Or.inl ⟨by rfl, ?ha13_15⟩) (by assumption) ?_
        case ha13_15 => (intro w hSw; (try dsimp only at hSw); go_simp; try with_reducible rfl)
        try simp only [Act.put, List.setIfInBounds_toArray, List.set_cons_zero, List.set_cons_succ]
        refine wpAnyH_take (i := 14) (v := ?va14_16) (by rw [List.getElem?_toArray]; rfl) (by kernel_rfl) (by kernel_rfl) (by kernel_rfl) (by exact fun _ _ _ h => h) (Or.inl ⟨by rfl, ?ha14_16⟩) (by assumption) ?_
        case ha14_16 => (intro w hSw; (try dsimp only at hSw); go_simp; try with_reducible rfl)
        try simp only [Act.put, List.setIfInBounds_toArray, List.set_cons_zero, List.set_cons_succ]
        refine wpAnyH_ready (rs := [16]) (by kernel_rfl) (by simp) ?_
        refine (AllReadyH.cons (by rw [List.getElem?_toArray]; rfl) (fun K hK => ?_) AllReadyH.nil)
        go_wp2_with fail
        refine hK.out _ _ (by exact HE1.out _ _) (fun hHeld => ?_)
        clear hK K
        try simp only [Act.put, List.setIfInBounds_toArray, List.set_cons_zero, List.set_cons_succ]
        refine wpAnyH_done (by kernel_rfl) ?_ _
        exact HR _ _ z30 z31 z40 z41
    · skip
      go_wp2_with fail
      refine hK.out _ _ (by exact HE1.out _ _) (fun hHeld => ?_)
      clear hK K
      try simp only [Act.put, List.setIfInBounds_toArray, List.set_cons_zero, List.set_cons_succ]
      refine wpAnyH_ready (rs := [4]) (by kernel_rfl) (by simp) ?_
      refine (AllReadyH.cons (by rw [List.getElem?_toArray]; rfl) (fun K hK => ?_) AllReadyH.nil)
      have HS := (show PtS w _ w3.heap.size sx sy from by assumption)
      go_simp
      go_at_call 19; refine (at_any _ n _ 3 _ (HU.out.below HS.2.2.2) (by omega) (by omega)).mono ?_; rintro e w' ⟨z3, z30, z31, rfl, rfl⟩
      refine hK.out _ _ (by assumption) (fun hHeld => ?_)
      clear hK K
      try simp only [Act.put, List.setIfInBounds_toArray, List.set_cons_zero, List.set_cons_succ]
      refine wpAnyH_take (i := 5) (v := ?va5_17) (by rw [List.getElem?_toArray]; rfl) (by kernel_rfl) (by kernel_rfl) (by kernel_rfl) (by exact fun _ _ _ h => h) (Or.inl ⟨by rfl, ?ha5_17⟩) (by assumption) ?_
      case ha5_17 => (intro w hSw; (try dsimp only at hSw); go_simp; try with_reducible rfl)
      try simp only [Act.put, List.setIfInBounds_toArray, List.set_cons_zero, List.set_cons_succ]
      refine wpAnyH_take (i := 6) (v := ?va6_18) (by rw [List.getElem?_toArray]; rfl) (by kernel_rfl) (by kernel_rfl) (by kernel_rfl) (by exact fun _ _ _ h => h) (Or.inl ⟨by rfl, ?ha6_18⟩) (by assumption) ?_
      case ha6_18 => (intro w hSw; (try dsimp only at hSw); go_simp; try with_reducible rfl)
      try simp only [Act.put, List.setIfInBounds_toArray, List.set_cons_zero, List.set_cons_succ]
      refine wpAnyH_ready (rs := [11]) (by kernel_rfl) (by simp) ?_
      refine (AllReadyH.cons (by rw [List.getElem?_toArray]; rfl) (fun K hK => ?_) AllReadyH.nil)
      have HS := (show PtS w _ w3.heap.size sx sy from by assumption)
      go_simp
      go_at_call 19; refine (at_any _ n _ 4 _ (HU.out.below HS.2.2.2) (by omega) (by omega)).mono ?_; rintro e w' ⟨z4, z40, z41, rfl, rfl⟩
      refine hK.out _ _ (by assumption) (fun hHeld => ?_)
      clear hK K
      try simp only [Act.put, List.setIfInBounds_toArray, List.set_cons_zero, List.set_cons_succ]
      refine wpAnyH_take (i := 12) (v := ?va12_19) (by rw [List.getElem?_toArray]; rfl) (by kernel_rfl) (by kernel_rfl) (by kernel_rfl) (by exact fun _ _ _ h => h) (Or.inl ⟨by rfl, ?ha12_19⟩) (by assumption) ?_
      case ha12_19 => (intro w hSw; (try dsimp only at hSw); go_simp; try with_reducible rfl)
      try simp only [Act.put, List.setIfInBounds_toArray, List.set_cons_zero, List.set_cons_succ]
      refine wpAnyH_take (i := 13) (v := ?va13_20) (by rw [List.getElem?_toArray]; rfl) (by kernel_rfl) (by kernel_rfl) (by kernel_rfl) (by exact fun _ _ _ h => h) (Or.inl ⟨by rfl, ?ha13_20⟩) (by assumption) ?_
      case ha13_20 => (intro w hSw; (try dsimp only at hSw); go_simp; try with_reducible rfl)
      try simp only [Act.put, List.setIfInBounds_toArray, List.set_cons_zero, List.set_cons_succ]
      refine wpAnyH_take (i := 14) (v := ?va14_21) (by rw [List.getElem?_toArray]; rfl) (by kernel_rfl) (by kernel_rfl) (by kernel_rfl) (by exact fun _ _ _ h => h) (Or.inl ⟨by rfl, ?ha14_21⟩) (by assumption) ?_
      case ha14_21 => (intro w hSw; (try dsimp only at hSw); go_simp; try with_reducible rfl)
      try simp only [Act.put, List.setIfInBounds_toArray, List.set_cons_zero, List.set_cons_succ]
      refine wpAnyH_ready (rs := [16]) (by kernel_rfl) (by simp) ?_
      refine (AllReadyH.cons (by rw [List.getElem?_toArray]; rfl) (fun K hK => ?_) AllReadyH.nil)
      go_wp2_with fail
      refine hK.out _ _ (by exact HE1.out _ _) (fun hHeld => ?_)
      clear hK K
      try simp only [Act.put, List.setIfInBounds_toArray, List.set_cons_zero, List.set_cons_succ]
      refine wpAnyH_done (by kernel_rfl) ?_ _
      exact HR _ _ z30 z31 z40 z41
end Go.Proofs.Ytpejphholomenaa
