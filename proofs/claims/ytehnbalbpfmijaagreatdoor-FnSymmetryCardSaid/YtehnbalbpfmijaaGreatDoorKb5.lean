/- What the claim's walk rests on: parts Partial, Tile, RectI. -/
import Derived.Test.YtehnbalbpfmijaaGreatDoorKb1
import Derived.Test.YtehnbalbpfmijaaGreatDoorKb3
import Derived.Deep.RegionLaw
namespace Go.Proofs.YtehnbalbpfmijaaGreatDoor
open Go.RowKit
set_option linter.unusedVariables false

/-- What is left behind k dominoes. -/
def lftTo (R : Nat) (ls : List Lk) : Nat → Nat
  | 0 => R
  | k + 1 => lftTo R ls k &&& (18446744073709551615 - dM (dAt ls k))
def pAt (R : Nat) (ls : List Lk) (k : Nat) : Bool := domL (dAt ls k) && (lftTo R ls k &&& dM (dAt ls k) == dM (dAt ls k)) && (decide (k = 0) || domLt (dAt ls (k - 1)) (dAt ls k))
def partB (R : Nat) (ls : List Lk) : Bool := upFrom (pAt R ls) 0 ls.length
theorem lftTo_lt {R : Nat} (hR : R < 18446744073709551616) (ls : List Lk) : ∀ k, lftTo R ls k < 18446744073709551616
  | 0 => hR
  | k + 1 => by rw [lftTo]; exact Nat.lt_of_le_of_lt Nat.and_le_left (lftTo_lt hR ls k)

/-- One struct in a cell of its own, another one beside it, in a world that grows. -/
abbrev PrevT (V w' : World) (a : Nat) (x y : Int) (d : Bool) (p : Addr) (x' y' : Int) (d' : Bool) : Prop := w'.cell? ⟨a, 0, none⟩ = some (.int .i64 x) ∧ w'.cell? ⟨a, 1, none⟩ = some (.int .i64 y) ∧ w'.cell? ⟨a, 2, none⟩ = some (.bool d) ∧
  w'.cell? p = some (.int .i64 x') ∧ w'.cell? ⟨p.block, p.off + 1, none⟩ = some (.int .i64 y') ∧ w'.cell? ⟨p.block, p.off + 2, none⟩ = some (.bool d') ∧ V.heap.size ≤ w'.heap.size ∧ Below V.heap.size V w'
theorem PrevT.keep {V W0 w1 : World} {a : Nat} {x y : Int} {d : Bool} {p : Addr} {x' y' : Int} {d' : Bool} (hb : Below W0.heap.size W0 w1) (ha : a < V.heap.size) (hp : p.block < V.heap.size) (h : PrevT V W0 a x y d p x' y' d') : PrevT V w1 a x y d p x' y' d' := by
  obtain ⟨h1, h2, h3, h4, h5, h6, h7, h8⟩ := h
  exact ⟨(hb.cell (by simp; omega)).trans h1, (hb.cell (by simp; omega)).trans h2, (hb.cell (by simp; omega)).trans h3, (hb.cell (by omega)).trans h4, (hb.cell (by simp; omega)).trans h5, (hb.cell (by simp; omega)).trans h6, Nat.le_trans h7 hb.size, h8.trans (hb.mono h7)⟩
theorem PrevT.drew {V W0 : World} {a : Nat} {x y : Int} {d : Bool} {p : Addr} {x' y' : Int} {d' : Bool} (h : PrevT V W0 a x y d p x' y' d') : PrevT V W0.drew a x y d p x' y' d' := ⟨h.1, h.2.1, h.2.2.1, h.2.2.2.1, h.2.2.2.2.1, h.2.2.2.2.2.1, h.2.2.2.2.2.2.1, h.2.2.2.2.2.2.2.drew⟩

set_option maxRecDepth 100000 in
set_option maxHeartbeats 4000000 in
theorem IsPartial_yes (u v : Value) (zs : List Int) (ls : List Lk) (B : Nat) (w : World) (hu : RdI w B u zs) (h : RdF elDomino w B v ls) (hB : B ≤ w.heap.size) (hok : regOkB zs = true) :
    Calls Tryz.prog 63 #[.agg #[u], v] w fun e w' => e = .returned (.bool (partB (setZ zs) ls)) ∧ Below w.heap.size w w' := by
  have HU := Lib.hid hu
  obtain ⟨A0, c0, rfl, g10, g20, _⟩ := hu
  obtain ⟨A, c, rfl, g1, g2, G3⟩ := RdT.of (E := elDomino) rfl (fun _ => rfl) h
  unfold maxLen at g2 g20
  clear h
  have HOK := Lib.hid hok
  have HRL := Lib.hid (lftTo_lt (setZ_lt hok) ls)
  generalize hr : partB (setZ zs) ls = r
  have HR : Hid (upFrom (pAt (setZ zs) ls) 0 ls.length = r) := hr
  clear hr hok
  obtain ⟨R, HS⟩ : ∃ R : Nat, Hid (setZ zs = R) := ⟨_, rfl⟩
  rw [HS.out] at HR HRL
  obtain ⟨W, hW, k1, hb⟩ := one_alloc w (.cells #[.slice A0 zs.length c0] 35)
  have HW := Lib.hid hW
  have HB := Lib.hid hb
  have HK1 := Lib.hid k1
  have c1 : W.cell? ⟨w.heap.size, 0, none⟩ = some (.slice A0 zs.length c0) := by rw [blk_cell k1]; rfl
  clear hW k1 hb
  go_enter Tryz.func63, Tryz.ntmps63
  go_wp2_with fail
  rw [← HW.out]
  refine (RegionOk_any _ zs B _ (HU.out.below (HB.out.mono hB)) (Nat.le_trans hB HB.out.size)).mono ?_
  rintro e w1 ⟨rfl, hb1⟩
  rw [HOK.out]
  have HB1 := Lib.hid (HB.out.trans (hb1.mono HB.out.size))
  have hc1 : w1.cell? ⟨w.heap.size, 0, none⟩ = some (.slice A0 zs.length c0) := by rw [blk_cell (blk_below HK1.out hb1)]; rfl
  clear c1 hb1
  go_wp2_with fail
  refine (rset_any _ zs B _ (HU.out.below (HB1.out.mono hB)) (Nat.le_trans hB HB1.out.size) HOK.out).mono ?_
  rintro e w2 ⟨rfl, hb2⟩
  rw [HS.out]
  have HB2 := Lib.hid (HB1.out.trans (hb2.mono HB1.out.size))
  clear hc1 hb2
  go_wp2_with fail
  go_loopw [5, 15] (fun s i wr => ∃ k : Nat, k ≤ ls.length ∧ i = .int .i64 k ∧ s = .int .u64 (lftTo R ls k : Nat) ∧ Hid (upFrom (pAt R ls) k ls.length = r) ∧ Hid (Below w.heap.size w wr)) (fun _ i _ => ls.length - (intOf i).toNat)
  case atStart => exact ⟨0, Nat.zero_le _, rfl, rfl, HR, HB2⟩
  case round =>
    obtain ⟨k, hk, rfl, rfl, HE, HBr⟩ := hrel
    by_cases hlt : k < ls.length
    · obtain ⟨ad, rfl, hbl, hx, hy, hz⟩ := G3.out k hlt
      have hbl2 : (ad.add (k * 3)).block < w.heap.size := by rw [addBlock]; omega
      have hx' := (HBr.out.cell (p := ad.add (k * 3)) hbl2).trans hx
      have hy' := (HBr.out.cell (p := ⟨(ad.add (k * 3)).block, (ad.add (k * 3)).off + 1, none⟩) hbl2).trans hy
      have hz' := (HBr.out.cell (p := ⟨(ad.add (k * 3)).block, (ad.add (k * 3)).off + 2, none⟩) hbl2).trans hz
      have HP := Lib.hid (upFrom_step (pAt R ls) k ls.length hlt)
      have HPA : Hid (pAt R ls k = (domB (lx ls k) (ly ls k) (ld ls k) && (lftTo R ls k &&& dM (lx ls k, ly ls k, ld ls k) == dM (lx ls k, ly ls k, ld ls k)) && (decide (k = 0) || domLt (dAt ls (k - 1)) (lx ls k, ly ls k, ld ls k)))) := rfl
      have HT : Hid (lftTo R ls (k + 1) = lftTo R ls k &&& (18446744073709551615 - dM (lx ls k, ly ls k, ld ls k))) := rfl
      have HLL := Lib.hid (HRL.out k)
      have HDL := Lib.hid (fun h => dM_lt (l := (lx ls k, ly ls k, ld ls k)) h)
      have HDS := Lib.hid (fun V h => dset_Z (lx ls k) (ly ls k) (ld ls k) V h)
      generalize lx ls k = x at *
      generalize ly ls k = y at *
      generalize ld ls k = d at *
      clear hx hy hz
      have hk0 : (0 : Int) ≤ (k : Int) := by omega
      have hk1 : (k : Int) < (ls.length : Int) := by omega
      go_wp2_with fail
      obtain ⟨V, hV, k1, hbV⟩ := one_alloc wr (triO x y d 51)
      rw [← hV]
      have HT0 := Lib.hid (OneT.of k1)
      have L1 := Lib.hid (lt_of_block k1)
      have HBV := Lib.hid (HBr.out.trans (hbV.mono HBr.out.size))
      clear hV k1 hbV hx' hy' hz'
      cases hd : domB x y d
      · -- no domino
        have HF : Hid (r = false) := by unfold Hid; rw [← HE.out, HP.out, HPA.out, hd]; rfl
        have H1 := Lib.hid hd
        clear HPA HP HT hd
        refine wp_region_held_drew (S := fun w' => OneT V w' wr.heap.size x y d) (by kernel_rfl) (by exact HT0.out.drew) (fun hHeld => ?_)
        refine wpAnyH_take (i := 0) (oi := ⟨_, _, _, _, _, _⟩) (v := ?vap4129q0) rfl (by kernel_rfl) (by kernel_rfl) (by kernel_rfl) (fun _ _ _ h => h) (Or.inl ⟨by rfl, ?hap4129q0⟩) (by assumption) ?_
        case hap4129q0 => (intro w hSw; (try dsimp only at hSw); go_simp; try with_reducible rfl)
        try simp only [Act.put, List.setIfInBounds_toArray, List.set_cons_zero, List.set_cons_succ]
        refine wpAnyH_ready (rs := [1]) (by kernel_rfl) (by simp) ?_
        refine AllReadyH.cons (o := ⟨_, _, _, _, _, _⟩) rfl (fun K hK => ?_) AllReadyH.nil
        go_simp; go_at_call 53; refine (DominoOk_any x y d _).mono ?_; rintro e w3 ⟨rfl, hb3⟩; rw [H1.out]
        refine hK.out _ _ (by exact OneT.keep hb3 L1.out (by assumption)) (fun hHeld => ?_)
        clear hK K
        try simp only [Act.put, List.setIfInBounds_toArray, List.set_cons_zero, List.set_cons_succ]
        refine wpAnyH_take (i := 2) (oi := ⟨_, _, _, _, _, _⟩) (v := ?vap4129q2) rfl (by kernel_rfl) (by kernel_rfl) (by kernel_rfl) (fun _ _ _ h => h) (Or.inl ⟨by rfl, ?hap4129q2⟩) (by assumption) ?_
        case hap4129q2 => (intro w hSw; (try dsimp only at hSw); go_simp; try with_reducible rfl)
        try simp only [Act.put, List.setIfInBounds_toArray, List.set_cons_zero, List.set_cons_succ]
        refine wpAnyH_take (i := 3) (oi := ⟨_, _, _, _, _, _⟩) (v := ?vap4129q3) rfl (by kernel_rfl) (by kernel_rfl) (by kernel_rfl) (fun _ _ _ h => h) (Or.inl ⟨by rfl, ?hap4129q3⟩) (by assumption) ?_
        case hap4129q3 => (intro w hSw; (try dsimp only at hSw); go_simp; try with_reducible rfl)
        try simp only [Act.put, List.setIfInBounds_toArray, List.set_cons_zero, List.set_cons_succ]
        refine wpAnyH_take (i := 4) (oi := ⟨_, _, _, _, _, _⟩) (v := undef) rfl (by kernel_rfl) (by kernel_rfl) (by kernel_rfl) (fun _ _ _ h => h) (Or.inr ⟨by rfl, rfl⟩) (by assumption) ?_
        try simp only [Act.put, List.setIfInBounds_toArray, List.set_cons_zero, List.set_cons_succ]
        refine wpAnyH_take (i := 5) (oi := ⟨_, _, _, _, _, _⟩) (v := undef) rfl (by kernel_rfl) (by kernel_rfl) (by kernel_rfl) (fun _ _ _ h => h) (Or.inr ⟨by rfl, rfl⟩) (by assumption) ?_
        try simp only [Act.put, List.setIfInBounds_toArray, List.set_cons_zero, List.set_cons_succ]
        refine wpAnyH_take (i := 6) (oi := ⟨_, _, _, _, _, _⟩) (v := undef) rfl (by kernel_rfl) (by kernel_rfl) (by kernel_rfl) (fun _ _ _ h => h) (Or.inr ⟨by rfl, rfl⟩) (by assumption) ?_
        try simp only [Act.put, List.setIfInBounds_toArray, List.set_cons_zero, List.set_cons_succ]
        refine wpAnyH_take (i := 7) (oi := ⟨_, _, _, _, _, _⟩) (v := undef) rfl (by kernel_rfl) (by kernel_rfl) (by kernel_rfl) (fun _ _ _ h => h) (Or.inr ⟨by rfl, rfl⟩) (by assumption) ?_
        try simp only [Act.put, List.setIfInBounds_toArray, List.set_cons_zero, List.set_cons_succ]
        refine wpAnyH_take (i := 8) (oi := ⟨_, _, _, _, _, _⟩) (v := undef) rfl (by kernel_rfl) (by kernel_rfl) (by kernel_rfl) (fun _ _ _ h => h) (Or.inr ⟨by rfl, rfl⟩) (by assumption) ?_
        try simp only [Act.put, List.setIfInBounds_toArray, List.set_cons_zero, List.set_cons_succ]
        refine wpAnyH_take (i := 9) (oi := ⟨_, _, _, _, _, _⟩) (v := undef) rfl (by kernel_rfl) (by kernel_rfl) (by kernel_rfl) (fun _ _ _ h => h) (Or.inr ⟨by rfl, rfl⟩) (by assumption) ?_
        try simp only [Act.put, List.setIfInBounds_toArray, List.set_cons_zero, List.set_cons_succ]
        refine wpAnyH_take (i := 10) (oi := ⟨_, _, _, _, _, _⟩) (v := undef) rfl (by kernel_rfl) (by kernel_rfl) (by kernel_rfl) (fun _ _ _ h => h) (Or.inr ⟨by rfl, rfl⟩) (by assumption) ?_
        try simp only [Act.put, List.setIfInBounds_toArray, List.set_cons_zero, List.set_cons_succ]
        refine wpAnyH_take (i := 11) (oi := ⟨_, _, _, _, _, _⟩) (v := ?vap4129q11) rfl (by kernel_rfl) (by kernel_rfl) (by kernel_rfl) (fun _ _ _ h => h) (Or.inl ⟨by rfl, ?hap4129q11⟩) (by assumption) ?_
        case hap4129q11 => (intro w hSw; (try dsimp only at hSw); go_simp; try with_reducible rfl)
        try simp only [Act.put, List.setIfInBounds_toArray, List.set_cons_zero, List.set_cons_succ]
        refine wpAnyH_take (i := 12) (oi := ⟨_, _, _, _, _, _⟩) (v := ?vap4129q12) rfl (by kernel_rfl) (by kernel_rfl) (by kernel_rfl) (fun _ _ _ h => h) (Or.inl ⟨by rfl, ?hap4129q12⟩) (by assumption) ?_
        case hap4129q12 => (intro w hSw; (try dsimp only at hSw); go_simp; try with_reducible rfl)
        try simp only [Act.put, List.setIfInBounds_toArray, List.set_cons_zero, List.set_cons_succ]
        refine wpAnyH_take (i := 13) (oi := ⟨_, _, _, _, _, _⟩) (v := undef) rfl (by kernel_rfl) (by kernel_rfl) (by kernel_rfl) (fun _ _ _ h => h) (Or.inr ⟨by rfl, rfl⟩) (by assumption) ?_
        try simp only [Act.put, List.setIfInBounds_toArray, List.set_cons_zero, List.set_cons_succ]
        refine wpAnyH_take (i := 14) (oi := ⟨_, _, _, _, _, _⟩) (v := undef) rfl (by kernel_rfl) (by kernel_rfl) (by kernel_rfl) (fun _ _ _ h => h) (Or.inr ⟨by rfl, rfl⟩) (by assumption) ?_
        try simp only [Act.put, List.setIfInBounds_toArray, List.set_cons_zero, List.set_cons_succ]
        refine wpAnyH_take (i := 15) (oi := ⟨_, _, _, _, _, _⟩) (v := undef) rfl (by kernel_rfl) (by kernel_rfl) (by kernel_rfl) (fun _ _ _ h => h) (Or.inr ⟨by rfl, rfl⟩) (by assumption) ?_
        try simp only [Act.put, List.setIfInBounds_toArray, List.set_cons_zero, List.set_cons_succ]
        refine wpAnyH_take (i := 16) (oi := ⟨_, _, _, _, _, _⟩) (v := undef) rfl (by kernel_rfl) (by kernel_rfl) (by kernel_rfl) (fun _ _ _ h => h) (Or.inr ⟨by rfl, rfl⟩) (by assumption) ?_
        try simp only [Act.put, List.setIfInBounds_toArray, List.set_cons_zero, List.set_cons_succ]
        refine wpAnyH_take (i := 17) (oi := ⟨_, _, _, _, _, _⟩) (v := undef) rfl (by kernel_rfl) (by kernel_rfl) (by kernel_rfl) (fun _ _ _ h => h) (Or.inr ⟨by rfl, rfl⟩) (by assumption) ?_
        try simp only [Act.put, List.setIfInBounds_toArray, List.set_cons_zero, List.set_cons_succ]
        refine wpAnyH_take (i := 18) (oi := ⟨_, _, _, _, _, _⟩) (v := undef) rfl (by kernel_rfl) (by kernel_rfl) (by kernel_rfl) (fun _ _ _ h => h) (Or.inr ⟨by rfl, rfl⟩) (by assumption) ?_
        try simp only [Act.put, List.setIfInBounds_toArray, List.set_cons_zero, List.set_cons_succ]
        refine wpAnyH_take (i := 19) (oi := ⟨_, _, _, _, _, _⟩) (v := undef) rfl (by kernel_rfl) (by kernel_rfl) (by kernel_rfl) (fun _ _ _ h => h) (Or.inr ⟨by rfl, rfl⟩) (by assumption) ?_
        try simp only [Act.put, List.setIfInBounds_toArray, List.set_cons_zero, List.set_cons_succ]
        refine wpAnyH_take (i := 20) (oi := ⟨_, _, _, _, _, _⟩) (v := undef) rfl (by kernel_rfl) (by kernel_rfl) (by kernel_rfl) (fun _ _ _ h => h) (Or.inr ⟨by rfl, rfl⟩) (by assumption) ?_
        try simp only [Act.put, List.setIfInBounds_toArray, List.set_cons_zero, List.set_cons_succ]
        refine wpAnyH_take (i := 21) (oi := ⟨_, _, _, _, _, _⟩) (v := undef) rfl (by kernel_rfl) (by kernel_rfl) (by kernel_rfl) (fun _ _ _ h => h) (Or.inr ⟨by rfl, rfl⟩) (by assumption) ?_
        try simp only [Act.put, List.setIfInBounds_toArray, List.set_cons_zero, List.set_cons_succ]
        refine wpAnyH_take (i := 22) (oi := ⟨_, _, _, _, _, _⟩) (v := undef) rfl (by kernel_rfl) (by kernel_rfl) (by kernel_rfl) (fun _ _ _ h => h) (Or.inr ⟨by rfl, rfl⟩) (by assumption) ?_
        try simp only [Act.put, List.setIfInBounds_toArray, List.set_cons_zero, List.set_cons_succ]
        refine wpAnyH_take (i := 23) (oi := ⟨_, _, _, _, _, _⟩) (v := undef) rfl (by kernel_rfl) (by kernel_rfl) (by kernel_rfl) (fun _ _ _ h => h) (Or.inr ⟨by rfl, rfl⟩) (by assumption) ?_
        try simp only [Act.put, List.setIfInBounds_toArray, List.set_cons_zero, List.set_cons_succ]
        refine wpAnyH_take (i := 24) (oi := ⟨_, _, _, _, _, _⟩) (v := undef) rfl (by kernel_rfl) (by kernel_rfl) (by kernel_rfl) (fun _ _ _ h => h) (Or.inr ⟨by rfl, rfl⟩) (by assumption) ?_
        try simp only [Act.put, List.setIfInBounds_toArray, List.set_cons_zero, List.set_cons_succ]
        refine wpAnyH_take (i := 25) (oi := ⟨_, _, _, _, _, _⟩) (v := ?vap4129q25) rfl (by kernel_rfl) (by kernel_rfl) (by kernel_rfl) (fun _ _ _ h => h) (Or.inl ⟨by rfl, ?hap4129q25⟩) (by assumption) ?_
        case hap4129q25 => (intro w hSw; (try dsimp only at hSw); go_simp; try with_reducible rfl)
        try simp only [Act.put, List.setIfInBounds_toArray, List.set_cons_zero, List.set_cons_succ]
        refine wpAnyH_done (by kernel_rfl) ?_ _
        have HB3 := Lib.hid (HBV.out.trans ((show OneT V w3 wr.heap.size x y d from by assumption).2.2.2.2.mono HBV.out.size))
        go_wp2_with fail
        go_ret
        exact ⟨ret_bool HF.out.symm, HB3.out⟩
      · have H1 := Lib.hid hd
        have HDX := Lib.hid (HDL.out hd)
        have HSX := Lib.hid fun U => HDS.out U hd
        have HAN := Lib.hid (u64_and_nat _ _ HLL.out HDX.out)
        have HNN := Lib.hid (u64_andNot_nat _ _ HLL.out HDX.out)
        obtain ⟨M, HM⟩ : ∃ M : Nat, Hid (dM (x, y, d) = M) := ⟨_, rfl⟩
        rw [HM.out] at HPA HT HDX HSX HAN HNN
        generalize hL : lftTo R ls k = L at *
        have HLE := Lib.hid hL
        clear hL HDL HDS
        cases hm : (L &&& M == M)
        · have HF : Hid (r = false) := by unfold Hid; rw [← HE.out, HP.out, HPA.out, hd, hm]; rfl
          have hmi : (bits .and .u64 (L : Int) (M : Int) != (M : Int)) = true := by rw [HAN.out]; rw [beq_eq_false_iff_ne] at hm; rw [bne_iff_ne]; omega
          clear HPA HP hd hm
          refine wp_region_held_drew (S := fun w' => OneT V w' wr.heap.size x y d) (by kernel_rfl) (by exact HT0.out.drew) (fun hHeld => ?_)
          refine wpAnyH_take (i := 0) (oi := ⟨_, _, _, _, _, _⟩) (v := ?vap4130q0) rfl (by kernel_rfl) (by kernel_rfl) (by kernel_rfl) (fun _ _ _ h => h) (Or.inl ⟨by rfl, ?hap4130q0⟩) (by assumption) ?_
          case hap4130q0 => (intro w hSw; (try dsimp only at hSw); go_simp; try with_reducible rfl)
          try simp only [Act.put, List.setIfInBounds_toArray, List.set_cons_zero, List.set_cons_succ]
          refine wpAnyH_ready (rs := [1]) (by kernel_rfl) (by simp) ?_
          refine AllReadyH.cons (o := ⟨_, _, _, _, _, _⟩) rfl (fun K hK => ?_) AllReadyH.nil
          go_simp; go_at_call 53; refine (DominoOk_any x y d _).mono ?_; rintro e w3 ⟨rfl, hb3⟩; rw [H1.out]
          refine hK.out _ _ (by exact OneT.keep hb3 L1.out (by assumption)) (fun hHeld => ?_)
          clear hK K
          try simp only [Act.put, List.setIfInBounds_toArray, List.set_cons_zero, List.set_cons_succ]
          refine wpAnyH_take (i := 2) (oi := ⟨_, _, _, _, _, _⟩) (v := ?vap4130q2) rfl (by kernel_rfl) (by kernel_rfl) (by kernel_rfl) (fun _ _ _ h => h) (Or.inl ⟨by rfl, ?hap4130q2⟩) (by assumption) ?_
          case hap4130q2 => (intro w hSw; (try dsimp only at hSw); go_simp; try with_reducible rfl)
          try simp only [Act.put, List.setIfInBounds_toArray, List.set_cons_zero, List.set_cons_succ]
          refine wpAnyH_take (i := 3) (oi := ⟨_, _, _, _, _, _⟩) (v := ?vap4130q3) rfl (by kernel_rfl) (by kernel_rfl) (by kernel_rfl) (fun _ _ _ h => h) (Or.inl ⟨by rfl, ?hap4130q3⟩) (by assumption) ?_
          case hap4130q3 => (intro w hSw; (try dsimp only at hSw); go_simp; try with_reducible rfl)
          try simp only [Act.put, List.setIfInBounds_toArray, List.set_cons_zero, List.set_cons_succ]
          refine wpAnyH_take (i := 4) (oi := ⟨_, _, _, _, _, _⟩) (v := ?vap4130q4) rfl (by kernel_rfl) (by kernel_rfl) (by kernel_rfl) (fun _ _ _ h => h) (Or.inl ⟨by rfl, ?hap4130q4⟩) (by assumption) ?_
          case hap4130q4 => (intro w hSw; (try dsimp only at hSw); go_simp; try with_reducible rfl)
          try simp only [Act.put, List.setIfInBounds_toArray, List.set_cons_zero, List.set_cons_succ]
          refine wpAnyH_take (i := 5) (oi := ⟨_, _, _, _, _, _⟩) (v := ?vap4130q5) rfl (by kernel_rfl) (by kernel_rfl) (by kernel_rfl) (fun _ _ _ h => h) (Or.inl ⟨by rfl, ?hap4130q5⟩) (by assumption) ?_
          case hap4130q5 => (intro w hSw; (try dsimp only at hSw); go_simp; try with_reducible rfl)
          try simp only [Act.put, List.setIfInBounds_toArray, List.set_cons_zero, List.set_cons_succ]
          refine wpAnyH_take (i := 8) (oi := ⟨_, _, _, _, _, _⟩) (v := ?vap4130q8) rfl (by kernel_rfl) (by kernel_rfl) (by kernel_rfl) (fun _ _ _ h => h) (Or.inl ⟨by rfl, ?hap4130q8⟩) (by assumption) ?_
          case hap4130q8 => (intro w hSw; (try dsimp only at hSw); go_simp; try with_reducible rfl)
          try simp only [Act.put, List.setIfInBounds_toArray, List.set_cons_zero, List.set_cons_succ]
          refine wpAnyH_ready (rs := [6]) (by kernel_rfl) (by simp) ?_
          refine AllReadyH.cons (o := ⟨_, _, _, _, _, _⟩) rfl (fun K hK => ?_) AllReadyH.nil
          go_simp; go_at_call 71; refine (HSX.out _).mono ?_; rintro e w3 ⟨rfl, hb3⟩
          refine hK.out _ _ (by exact OneT.keep hb3 L1.out (by assumption)) (fun hHeld => ?_)
          clear hK K
          try simp only [Act.put, List.setIfInBounds_toArray, List.set_cons_zero, List.set_cons_succ]
          refine wpAnyH_take (i := 7) (oi := ⟨_, _, _, _, _, _⟩) (v := ?vap4130q7) rfl (by kernel_rfl) (by kernel_rfl) (by kernel_rfl) (fun _ _ _ h => h) (Or.inl ⟨by rfl, ?hap4130q7⟩) (by assumption) ?_
          case hap4130q7 => (intro w hSw; (try dsimp only at hSw); go_simp; try with_reducible rfl)
          try simp only [Act.put, List.setIfInBounds_toArray, List.set_cons_zero, List.set_cons_succ]
          refine wpAnyH_ready (rs := [9]) (by kernel_rfl) (by simp) ?_
          refine AllReadyH.cons (o := ⟨_, _, _, _, _, _⟩) rfl (fun K hK => ?_) AllReadyH.nil
          go_simp; go_at_call 71; refine (HSX.out _).mono ?_; rintro e w3 ⟨rfl, hb3⟩
          refine hK.out _ _ (by exact OneT.keep hb3 L1.out (by assumption)) (fun hHeld => ?_)
          clear hK K
          try simp only [Act.put, List.setIfInBounds_toArray, List.set_cons_zero, List.set_cons_succ]
          refine wpAnyH_take (i := 10) (oi := ⟨_, _, _, _, _, _⟩) (v := ?vap4130q10) rfl (by kernel_rfl) (by kernel_rfl) (by kernel_rfl) (fun _ _ _ h => h) (Or.inl ⟨by rfl, ?hap4130q10⟩) (by assumption) ?_
          case hap4130q10 => (intro w hSw; (try dsimp only at hSw); go_simp; try with_reducible rfl)
          try simp only [Act.put, List.setIfInBounds_toArray, List.set_cons_zero, List.set_cons_succ]
          refine wpAnyH_take (i := 11) (oi := ⟨_, _, _, _, _, _⟩) (v := ?vap4130q11) rfl (by kernel_rfl) (by kernel_rfl) (by kernel_rfl) (fun _ _ _ h => h) (Or.inl ⟨by rfl, ?hap4130q11⟩) (by assumption) ?_
          case hap4130q11 => (intro w hSw; (try dsimp only at hSw); go_simp; try with_reducible rfl)
          try simp only [Act.put, List.setIfInBounds_toArray, List.set_cons_zero, List.set_cons_succ]
          refine wpAnyH_take (i := 12) (oi := ⟨_, _, _, _, _, _⟩) (v := ?vap4130q12) rfl (by kernel_rfl) (by kernel_rfl) (by kernel_rfl) (fun _ _ _ h => h) (Or.inl ⟨by rfl, ?hap4130q12⟩) (by assumption) ?_
          case hap4130q12 => (intro w hSw; (try dsimp only at hSw); go_simp; try with_reducible rfl)
          try simp only [Act.put, List.setIfInBounds_toArray, List.set_cons_zero, List.set_cons_succ]
          refine wpAnyH_take (i := 13) (oi := ⟨_, _, _, _, _, _⟩) (v := undef) rfl (by kernel_rfl) (by kernel_rfl) (by kernel_rfl) (fun _ _ _ h => h) (Or.inr ⟨by rfl, rfl⟩) (by assumption) ?_
          try simp only [Act.put, List.setIfInBounds_toArray, List.set_cons_zero, List.set_cons_succ]
          refine wpAnyH_take (i := 14) (oi := ⟨_, _, _, _, _, _⟩) (v := undef) rfl (by kernel_rfl) (by kernel_rfl) (by kernel_rfl) (fun _ _ _ h => h) (Or.inr ⟨by rfl, rfl⟩) (by assumption) ?_
          try simp only [Act.put, List.setIfInBounds_toArray, List.set_cons_zero, List.set_cons_succ]
          refine wpAnyH_take (i := 15) (oi := ⟨_, _, _, _, _, _⟩) (v := undef) rfl (by kernel_rfl) (by kernel_rfl) (by kernel_rfl) (fun _ _ _ h => h) (Or.inr ⟨by rfl, rfl⟩) (by assumption) ?_
          try simp only [Act.put, List.setIfInBounds_toArray, List.set_cons_zero, List.set_cons_succ]
          refine wpAnyH_take (i := 16) (oi := ⟨_, _, _, _, _, _⟩) (v := undef) rfl (by kernel_rfl) (by kernel_rfl) (by kernel_rfl) (fun _ _ _ h => h) (Or.inr ⟨by rfl, rfl⟩) (by assumption) ?_
          try simp only [Act.put, List.setIfInBounds_toArray, List.set_cons_zero, List.set_cons_succ]
          refine wpAnyH_take (i := 17) (oi := ⟨_, _, _, _, _, _⟩) (v := undef) rfl (by kernel_rfl) (by kernel_rfl) (by kernel_rfl) (fun _ _ _ h => h) (Or.inr ⟨by rfl, rfl⟩) (by assumption) ?_
          try simp only [Act.put, List.setIfInBounds_toArray, List.set_cons_zero, List.set_cons_succ]
          refine wpAnyH_take (i := 18) (oi := ⟨_, _, _, _, _, _⟩) (v := undef) rfl (by kernel_rfl) (by kernel_rfl) (by kernel_rfl) (fun _ _ _ h => h) (Or.inr ⟨by rfl, rfl⟩) (by assumption) ?_
          try simp only [Act.put, List.setIfInBounds_toArray, List.set_cons_zero, List.set_cons_succ]
          refine wpAnyH_take (i := 19) (oi := ⟨_, _, _, _, _, _⟩) (v := undef) rfl (by kernel_rfl) (by kernel_rfl) (by kernel_rfl) (fun _ _ _ h => h) (Or.inr ⟨by rfl, rfl⟩) (by assumption) ?_
          try simp only [Act.put, List.setIfInBounds_toArray, List.set_cons_zero, List.set_cons_succ]
          refine wpAnyH_take (i := 20) (oi := ⟨_, _, _, _, _, _⟩) (v := undef) rfl (by kernel_rfl) (by kernel_rfl) (by kernel_rfl) (fun _ _ _ h => h) (Or.inr ⟨by rfl, rfl⟩) (by assumption) ?_
          try simp only [Act.put, List.setIfInBounds_toArray, List.set_cons_zero, List.set_cons_succ]
          refine wpAnyH_take (i := 21) (oi := ⟨_, _, _, _, _, _⟩) (v := undef) rfl (by kernel_rfl) (by kernel_rfl) (by kernel_rfl) (fun _ _ _ h => h) (Or.inr ⟨by rfl, rfl⟩) (by assumption) ?_
          try simp only [Act.put, List.setIfInBounds_toArray, List.set_cons_zero, List.set_cons_succ]
          refine wpAnyH_take (i := 22) (oi := ⟨_, _, _, _, _, _⟩) (v := undef) rfl (by kernel_rfl) (by kernel_rfl) (by kernel_rfl) (fun _ _ _ h => h) (Or.inr ⟨by rfl, rfl⟩) (by assumption) ?_
          try simp only [Act.put, List.setIfInBounds_toArray, List.set_cons_zero, List.set_cons_succ]
          refine wpAnyH_take (i := 23) (oi := ⟨_, _, _, _, _, _⟩) (v := undef) rfl (by kernel_rfl) (by kernel_rfl) (by kernel_rfl) (fun _ _ _ h => h) (Or.inr ⟨by rfl, rfl⟩) (by assumption) ?_
          try simp only [Act.put, List.setIfInBounds_toArray, List.set_cons_zero, List.set_cons_succ]
          refine wpAnyH_take (i := 24) (oi := ⟨_, _, _, _, _, _⟩) (v := undef) rfl (by kernel_rfl) (by kernel_rfl) (by kernel_rfl) (fun _ _ _ h => h) (Or.inr ⟨by rfl, rfl⟩) (by assumption) ?_
          try simp only [Act.put, List.setIfInBounds_toArray, List.set_cons_zero, List.set_cons_succ]
          refine wpAnyH_take (i := 25) (oi := ⟨_, _, _, _, _, _⟩) (v := ?vap4130q25) rfl (by kernel_rfl) (by kernel_rfl) (by kernel_rfl) (fun _ _ _ h => h) (Or.inl ⟨by rfl, ?hap4130q25⟩) (by assumption) ?_
          case hap4130q25 => (intro w hSw; (try dsimp only at hSw); go_simp; try with_reducible rfl)
          try simp only [Act.put, List.setIfInBounds_toArray, List.set_cons_zero, List.set_cons_succ]
          refine wpAnyH_done (by kernel_rfl) ?_ _
          have HB3 := Lib.hid (HBV.out.trans ((show OneT V _ wr.heap.size x y d from by assumption).2.2.2.2.mono HBV.out.size))
          go_wp2_with fail
          go_ret
          exact ⟨ret_bool HF.out.symm, HB3.out⟩
        · have hmi : (bits .and .u64 (L : Int) (M : Int) != (M : Int)) = false := by rw [HAN.out]; rw [beq_iff_eq] at hm; rw [hm]; simp
          rcases Nat.eq_zero_or_pos k with hk0' | hk0'
          · have t0 : decide (0 < k) = false := by simp; omega
            have HEE : Hid (upFrom (pAt R ls) (k + 1) ls.length = r) := by unfold Hid; rw [← HE.out, HP.out, HPA.out, hd, hm, hk0']; rfl
            clear HPA HP hd hm hk0' HE
            refine wp_region_held_drew (S := fun w' => OneT V w' wr.heap.size x y d) (by kernel_rfl) (by exact HT0.out.drew) (fun hHeld => ?_)
            refine wpAnyH_take (i := 0) (oi := ⟨_, _, _, _, _, _⟩) (v := ?vap4131q0) rfl (by kernel_rfl) (by kernel_rfl) (by kernel_rfl) (fun _ _ _ h => h) (Or.inl ⟨by rfl, ?hap4131q0⟩) (by assumption) ?_
            case hap4131q0 => (intro w hSw; (try dsimp only at hSw); go_simp; try with_reducible rfl)
            try simp only [Act.put, List.setIfInBounds_toArray, List.set_cons_zero, List.set_cons_succ]
            refine wpAnyH_ready (rs := [1]) (by kernel_rfl) (by simp) ?_
            refine AllReadyH.cons (o := ⟨_, _, _, _, _, _⟩) rfl (fun K hK => ?_) AllReadyH.nil
            go_simp; go_at_call 53; refine (DominoOk_any x y d _).mono ?_; rintro e w3 ⟨rfl, hb3⟩; rw [H1.out]
            refine hK.out _ _ (by exact OneT.keep hb3 L1.out (by assumption)) (fun hHeld => ?_)
            clear hK K
            try simp only [Act.put, List.setIfInBounds_toArray, List.set_cons_zero, List.set_cons_succ]
            refine wpAnyH_take (i := 2) (oi := ⟨_, _, _, _, _, _⟩) (v := ?vap4131q2) rfl (by kernel_rfl) (by kernel_rfl) (by kernel_rfl) (fun _ _ _ h => h) (Or.inl ⟨by rfl, ?hap4131q2⟩) (by assumption) ?_
            case hap4131q2 => (intro w hSw; (try dsimp only at hSw); go_simp; try with_reducible rfl)
            try simp only [Act.put, List.setIfInBounds_toArray, List.set_cons_zero, List.set_cons_succ]
            refine wpAnyH_take (i := 3) (oi := ⟨_, _, _, _, _, _⟩) (v := ?vap4131q3) rfl (by kernel_rfl) (by kernel_rfl) (by kernel_rfl) (fun _ _ _ h => h) (Or.inl ⟨by rfl, ?hap4131q3⟩) (by assumption) ?_
            case hap4131q3 => (intro w hSw; (try dsimp only at hSw); go_simp; try with_reducible rfl)
            try simp only [Act.put, List.setIfInBounds_toArray, List.set_cons_zero, List.set_cons_succ]
            refine wpAnyH_take (i := 4) (oi := ⟨_, _, _, _, _, _⟩) (v := ?vap4131q4) rfl (by kernel_rfl) (by kernel_rfl) (by kernel_rfl) (fun _ _ _ h => h) (Or.inl ⟨by rfl, ?hap4131q4⟩) (by assumption) ?_
            case hap4131q4 => (intro w hSw; (try dsimp only at hSw); go_simp; try with_reducible rfl)
            try simp only [Act.put, List.setIfInBounds_toArray, List.set_cons_zero, List.set_cons_succ]
            refine wpAnyH_take (i := 5) (oi := ⟨_, _, _, _, _, _⟩) (v := ?vap4131q5) rfl (by kernel_rfl) (by kernel_rfl) (by kernel_rfl) (fun _ _ _ h => h) (Or.inl ⟨by rfl, ?hap4131q5⟩) (by assumption) ?_
            case hap4131q5 => (intro w hSw; (try dsimp only at hSw); go_simp; try with_reducible rfl)
            try simp only [Act.put, List.setIfInBounds_toArray, List.set_cons_zero, List.set_cons_succ]
            refine wpAnyH_take (i := 8) (oi := ⟨_, _, _, _, _, _⟩) (v := ?vap4131q8) rfl (by kernel_rfl) (by kernel_rfl) (by kernel_rfl) (fun _ _ _ h => h) (Or.inl ⟨by rfl, ?hap4131q8⟩) (by assumption) ?_
            case hap4131q8 => (intro w hSw; (try dsimp only at hSw); go_simp; try with_reducible rfl)
            try simp only [Act.put, List.setIfInBounds_toArray, List.set_cons_zero, List.set_cons_succ]
            refine wpAnyH_ready (rs := [6]) (by kernel_rfl) (by simp) ?_
            refine AllReadyH.cons (o := ⟨_, _, _, _, _, _⟩) rfl (fun K hK => ?_) AllReadyH.nil
            go_simp; go_at_call 71; refine (HSX.out _).mono ?_; rintro e w3 ⟨rfl, hb3⟩
            refine hK.out _ _ (by exact OneT.keep hb3 L1.out (by assumption)) (fun hHeld => ?_)
            clear hK K
            try simp only [Act.put, List.setIfInBounds_toArray, List.set_cons_zero, List.set_cons_succ]
            refine wpAnyH_take (i := 7) (oi := ⟨_, _, _, _, _, _⟩) (v := ?vap4131q7) rfl (by kernel_rfl) (by kernel_rfl) (by kernel_rfl) (fun _ _ _ h => h) (Or.inl ⟨by rfl, ?hap4131q7⟩) (by assumption) ?_
            case hap4131q7 => (intro w hSw; (try dsimp only at hSw); go_simp; try with_reducible rfl)
            try simp only [Act.put, List.setIfInBounds_toArray, List.set_cons_zero, List.set_cons_succ]
            refine wpAnyH_ready (rs := [9]) (by kernel_rfl) (by simp) ?_
            refine AllReadyH.cons (o := ⟨_, _, _, _, _, _⟩) rfl (fun K hK => ?_) AllReadyH.nil
            go_simp; go_at_call 71; refine (HSX.out _).mono ?_; rintro e w3 ⟨rfl, hb3⟩
            refine hK.out _ _ (by exact OneT.keep hb3 L1.out (by assumption)) (fun hHeld => ?_)
            clear hK K
            try simp only [Act.put, List.setIfInBounds_toArray, List.set_cons_zero, List.set_cons_succ]
            refine wpAnyH_take (i := 10) (oi := ⟨_, _, _, _, _, _⟩) (v := ?vap4131q10) rfl (by kernel_rfl) (by kernel_rfl) (by kernel_rfl) (fun _ _ _ h => h) (Or.inl ⟨by rfl, ?hap4131q10⟩) (by assumption) ?_
            case hap4131q10 => (intro w hSw; (try dsimp only at hSw); go_simp; try with_reducible rfl)
            try simp only [Act.put, List.setIfInBounds_toArray, List.set_cons_zero, List.set_cons_succ]
            refine wpAnyH_take (i := 11) (oi := ⟨_, _, _, _, _, _⟩) (v := ?vap4131q11) rfl (by kernel_rfl) (by kernel_rfl) (by kernel_rfl) (fun _ _ _ h => h) (Or.inl ⟨by rfl, ?hap4131q11⟩) (by assumption) ?_
            case hap4131q11 => (intro w hSw; (try dsimp only at hSw); go_simp; try with_reducible rfl)
            try simp only [Act.put, List.setIfInBounds_toArray, List.set_cons_zero, List.set_cons_succ]
            refine wpAnyH_take (i := 12) (oi := ⟨_, _, _, _, _, _⟩) (v := ?vap4131q12) rfl (by kernel_rfl) (by kernel_rfl) (by kernel_rfl) (fun _ _ _ h => h) (Or.inl ⟨by rfl, ?hap4131q12⟩) (by assumption) ?_
            case hap4131q12 => (intro w hSw; (try dsimp only at hSw); go_simp; try with_reducible rfl)
            try simp only [Act.put, List.setIfInBounds_toArray, List.set_cons_zero, List.set_cons_succ]
            refine wpAnyH_take (i := 13) (oi := ⟨_, _, _, _, _, _⟩) (v := ?vap4131q13) rfl (by kernel_rfl) (by kernel_rfl) (by kernel_rfl) (fun _ _ _ h => h) (Or.inl ⟨by rfl, ?hap4131q13⟩) (by assumption) ?_
            case hap4131q13 => (intro w hSw; (try dsimp only at hSw); go_simp; try with_reducible rfl)
            try simp only [Act.put, List.setIfInBounds_toArray, List.set_cons_zero, List.set_cons_succ]
            refine wpAnyH_take (i := 14) (oi := ⟨_, _, _, _, _, _⟩) (v := ?vap4131q14) rfl (by kernel_rfl) (by kernel_rfl) (by kernel_rfl) (fun _ _ _ h => h) (Or.inl ⟨by rfl, ?hap4131q14⟩) (by assumption) ?_
            case hap4131q14 => (intro w hSw; (try dsimp only at hSw); go_simp; try with_reducible rfl)
            try simp only [Act.put, List.setIfInBounds_toArray, List.set_cons_zero, List.set_cons_succ]
            refine wpAnyH_take (i := 15) (oi := ⟨_, _, _, _, _, _⟩) (v := ?vap4131q15) rfl (by kernel_rfl) (by kernel_rfl) (by kernel_rfl) (fun _ _ _ h => h) (Or.inl ⟨by rfl, ?hap4131q15⟩) (by assumption) ?_
            case hap4131q15 => (intro w hSw; (try dsimp only at hSw); go_simp; try with_reducible rfl)
            try simp only [Act.put, List.setIfInBounds_toArray, List.set_cons_zero, List.set_cons_succ]
            refine wpAnyH_take (i := 16) (oi := ⟨_, _, _, _, _, _⟩) (v := undef) rfl (by kernel_rfl) (by kernel_rfl) (by kernel_rfl) (fun _ _ _ h => h) (Or.inr ⟨by rfl, rfl⟩) (by assumption) ?_
            try simp only [Act.put, List.setIfInBounds_toArray, List.set_cons_zero, List.set_cons_succ]
            refine wpAnyH_take (i := 17) (oi := ⟨_, _, _, _, _, _⟩) (v := undef) rfl (by kernel_rfl) (by kernel_rfl) (by kernel_rfl) (fun _ _ _ h => h) (Or.inr ⟨by rfl, rfl⟩) (by assumption) ?_
            try simp only [Act.put, List.setIfInBounds_toArray, List.set_cons_zero, List.set_cons_succ]
            refine wpAnyH_take (i := 18) (oi := ⟨_, _, _, _, _, _⟩) (v := undef) rfl (by kernel_rfl) (by kernel_rfl) (by kernel_rfl) (fun _ _ _ h => h) (Or.inr ⟨by rfl, rfl⟩) (by assumption) ?_
            try simp only [Act.put, List.setIfInBounds_toArray, List.set_cons_zero, List.set_cons_succ]
            refine wpAnyH_take (i := 19) (oi := ⟨_, _, _, _, _, _⟩) (v := undef) rfl (by kernel_rfl) (by kernel_rfl) (by kernel_rfl) (fun _ _ _ h => h) (Or.inr ⟨by rfl, rfl⟩) (by assumption) ?_
            try simp only [Act.put, List.setIfInBounds_toArray, List.set_cons_zero, List.set_cons_succ]
            refine wpAnyH_take (i := 20) (oi := ⟨_, _, _, _, _, _⟩) (v := undef) rfl (by kernel_rfl) (by kernel_rfl) (by kernel_rfl) (fun _ _ _ h => h) (Or.inr ⟨by rfl, rfl⟩) (by assumption) ?_
            try simp only [Act.put, List.setIfInBounds_toArray, List.set_cons_zero, List.set_cons_succ]
            refine wpAnyH_take (i := 21) (oi := ⟨_, _, _, _, _, _⟩) (v := undef) rfl (by kernel_rfl) (by kernel_rfl) (by kernel_rfl) (fun _ _ _ h => h) (Or.inr ⟨by rfl, rfl⟩) (by assumption) ?_
            try simp only [Act.put, List.setIfInBounds_toArray, List.set_cons_zero, List.set_cons_succ]
            refine wpAnyH_take (i := 22) (oi := ⟨_, _, _, _, _, _⟩) (v := undef) rfl (by kernel_rfl) (by kernel_rfl) (by kernel_rfl) (fun _ _ _ h => h) (Or.inr ⟨by rfl, rfl⟩) (by assumption) ?_
            try simp only [Act.put, List.setIfInBounds_toArray, List.set_cons_zero, List.set_cons_succ]
            refine wpAnyH_take (i := 23) (oi := ⟨_, _, _, _, _, _⟩) (v := undef) rfl (by kernel_rfl) (by kernel_rfl) (by kernel_rfl) (fun _ _ _ h => h) (Or.inr ⟨by rfl, rfl⟩) (by assumption) ?_
            try simp only [Act.put, List.setIfInBounds_toArray, List.set_cons_zero, List.set_cons_succ]
            refine wpAnyH_take (i := 24) (oi := ⟨_, _, _, _, _, _⟩) (v := ?vap4131q24) rfl (by kernel_rfl) (by kernel_rfl) (by kernel_rfl) (fun _ _ _ h => h) (Or.inl ⟨by rfl, ?hap4131q24⟩) (by assumption) ?_
            case hap4131q24 => (intro w hSw; (try dsimp only at hSw); go_simp; try with_reducible rfl)
            try simp only [Act.put, List.setIfInBounds_toArray, List.set_cons_zero, List.set_cons_succ]
            refine wpAnyH_take (i := 25) (oi := ⟨_, _, _, _, _, _⟩) (v := ?vap4131q25) rfl (by kernel_rfl) (by kernel_rfl) (by kernel_rfl) (fun _ _ _ h => h) (Or.inl ⟨by rfl, ?hap4131q25⟩) (by assumption) ?_
            case hap4131q25 => (intro w hSw; (try dsimp only at hSw); go_simp; try with_reducible rfl)
            try simp only [Act.put, List.setIfInBounds_toArray, List.set_cons_zero, List.set_cons_succ]
            refine wpAnyH_done (by kernel_rfl) ?_ _
            have HB3 := Lib.hid (HBV.out.trans ((show OneT V _ wr.heap.size x y d from by assumption).2.2.2.2.mono HBV.out.size))
            obtain ⟨f0, f1, f2, _⟩ := (show OneT V _ wr.heap.size x y d from by assumption)
            go_wp2_with fail
            refine (HSX.out _).mono ?_
            rintro e w5 ⟨rfl, hb5⟩
            have HB5 := Lib.hid (HB3.out.trans (hb5.mono HB3.out.size))
            go_wp2_with fail
            go_roundw
            case rel => exact ⟨k + 1, by omega, by go_num, by rw [HT.out, HNN.out], HEE, HB5⟩
            case measure => simp [intOf]; omega
          · have t0 : decide (0 < k) = true := by simp; omega
            obtain ⟨ad2, he2, _, px, py, pz⟩ := G3.out (k - 1) (by omega)
            obtain rfl := Option.some.inj he2
            have L2 : Hid ((ad.add ((k - 1) * 3)).block < V.heap.size) := by unfold Hid; rw [addBlock]; have := HBV.out.size; omega
            have hblp : (ad.add ((k - 1) * 3)).block < w.heap.size := by rw [addBlock]; omega
            have HT1 : Hid (PrevT V V wr.heap.size x y d (ad.add ((k - 1) * 3)) (lx ls (k - 1)) (ly ls (k - 1)) (ld ls (k - 1))) :=
              ⟨HT0.out.1, HT0.out.2.1, HT0.out.2.2.1, (HBV.out.cell hblp).trans px, (HBV.out.cell (p := ⟨(ad.add ((k - 1) * 3)).block, (ad.add ((k - 1) * 3)).off + 1, none⟩) hblp).trans py, (HBV.out.cell (p := ⟨(ad.add ((k - 1) * 3)).block, (ad.add ((k - 1) * 3)).off + 2, none⟩) hblp).trans pz, Nat.le_refl _, Below.refl _ _⟩
            have HPQ : Hid (dAt ls (k - 1) = (lx ls (k - 1), ly ls (k - 1), ld ls (k - 1))) := rfl
            rw [HPQ.out] at HPA
            clear px py pz HPQ he2
            generalize lx ls (k - 1) = x' at *
            generalize ly ls (k - 1) = y' at *
            generalize ld ls (k - 1) = d' at *
            have hkz : ((k : Int) - 1).toNat = k - 1 := by omega
            have hkw : IntKind.i64.wrap ((k : Int) - 1) = (k : Int) - 1 := IntWalk.i64_in _ (by omega)
            have hk2 : (0 : Int) ≤ (k : Int) - 1 := by omega
            have hk4 : (1 : Int) ≤ (k : Int) := by omega
            have hk5 : 1 ≤ k := by omega
            have hk3 : (k : Int) - 1 < (ls.length : Int) := by omega
            have hd0 : decide (k = 0) = false := by simp; omega
            cases hb4 : domLt (x', y', d') (x, y, d)
            · have HB4 := Lib.hid hb4
              have HF : Hid (r = false) := by unfold Hid; rw [← HE.out, HP.out, HPA.out, hd, hm, hd0, hb4]; rfl
              clear HPA HP hd hm hk0' HE hb4 hd0
              refine wp_region_held_drew (S := fun w' => PrevT V w' wr.heap.size x y d (ad.add ((k - 1) * 3)) x' y' d') (by kernel_rfl) (by exact HT1.out.drew) (fun hHeld => ?_)
              refine wpAnyH_take (i := 0) (oi := ⟨_, _, _, _, _, _⟩) (v := ?vap4132q0) rfl (by kernel_rfl) (by kernel_rfl) (by kernel_rfl) (fun _ _ _ h => h) (Or.inl ⟨by rfl, ?hap4132q0⟩) (by assumption) ?_
              case hap4132q0 => (intro w hSw; (try dsimp only at hSw); go_simp; try with_reducible rfl)
              try simp only [Act.put, List.setIfInBounds_toArray, List.set_cons_zero, List.set_cons_succ]
              refine wpAnyH_ready (rs := [1]) (by kernel_rfl) (by simp) ?_
              refine AllReadyH.cons (o := ⟨_, _, _, _, _, _⟩) rfl (fun K hK => ?_) AllReadyH.nil
              go_simp; go_at_call 53; refine (DominoOk_any x y d _).mono ?_; rintro e w3 ⟨rfl, hb3⟩; rw [H1.out]
              refine hK.out _ _ (by exact PrevT.keep hb3 L1.out L2.out (by assumption)) (fun hHeld => ?_)
              clear hK K
              try simp only [Act.put, List.setIfInBounds_toArray, List.set_cons_zero, List.set_cons_succ]
              refine wpAnyH_take (i := 2) (oi := ⟨_, _, _, _, _, _⟩) (v := ?vap4132q2) rfl (by kernel_rfl) (by kernel_rfl) (by kernel_rfl) (fun _ _ _ h => h) (Or.inl ⟨by rfl, ?hap4132q2⟩) (by assumption) ?_
              case hap4132q2 => (intro w hSw; (try dsimp only at hSw); go_simp; try with_reducible rfl)
              try simp only [Act.put, List.setIfInBounds_toArray, List.set_cons_zero, List.set_cons_succ]
              refine wpAnyH_take (i := 3) (oi := ⟨_, _, _, _, _, _⟩) (v := ?vap4132q3) rfl (by kernel_rfl) (by kernel_rfl) (by kernel_rfl) (fun _ _ _ h => h) (Or.inl ⟨by rfl, ?hap4132q3⟩) (by assumption) ?_
              case hap4132q3 => (intro w hSw; (try dsimp only at hSw); go_simp; try with_reducible rfl)
              try simp only [Act.put, List.setIfInBounds_toArray, List.set_cons_zero, List.set_cons_succ]
              refine wpAnyH_take (i := 4) (oi := ⟨_, _, _, _, _, _⟩) (v := ?vap4132q4) rfl (by kernel_rfl) (by kernel_rfl) (by kernel_rfl) (fun _ _ _ h => h) (Or.inl ⟨by rfl, ?hap4132q4⟩) (by assumption) ?_
              case hap4132q4 => (intro w hSw; (try dsimp only at hSw); go_simp; try with_reducible rfl)
              try simp only [Act.put, List.setIfInBounds_toArray, List.set_cons_zero, List.set_cons_succ]
              refine wpAnyH_take (i := 5) (oi := ⟨_, _, _, _, _, _⟩) (v := ?vap4132q5) rfl (by kernel_rfl) (by kernel_rfl) (by kernel_rfl) (fun _ _ _ h => h) (Or.inl ⟨by rfl, ?hap4132q5⟩) (by assumption) ?_
              case hap4132q5 => (intro w hSw; (try dsimp only at hSw); go_simp; try with_reducible rfl)
              try simp only [Act.put, List.setIfInBounds_toArray, List.set_cons_zero, List.set_cons_succ]
              refine wpAnyH_take (i := 8) (oi := ⟨_, _, _, _, _, _⟩) (v := ?vap4132q8) rfl (by kernel_rfl) (by kernel_rfl) (by kernel_rfl) (fun _ _ _ h => h) (Or.inl ⟨by rfl, ?hap4132q8⟩) (by assumption) ?_
              case hap4132q8 => (intro w hSw; (try dsimp only at hSw); go_simp; try with_reducible rfl)
              try simp only [Act.put, List.setIfInBounds_toArray, List.set_cons_zero, List.set_cons_succ]
              refine wpAnyH_ready (rs := [6]) (by kernel_rfl) (by simp) ?_
              refine AllReadyH.cons (o := ⟨_, _, _, _, _, _⟩) rfl (fun K hK => ?_) AllReadyH.nil
              go_simp; go_at_call 71; refine (HSX.out _).mono ?_; rintro e w3 ⟨rfl, hb3⟩
              refine hK.out _ _ (by exact PrevT.keep hb3 L1.out L2.out (by assumption)) (fun hHeld => ?_)
              clear hK K
              try simp only [Act.put, List.setIfInBounds_toArray, List.set_cons_zero, List.set_cons_succ]
              refine wpAnyH_take (i := 7) (oi := ⟨_, _, _, _, _, _⟩) (v := ?vap4132q7) rfl (by kernel_rfl) (by kernel_rfl) (by kernel_rfl) (fun _ _ _ h => h) (Or.inl ⟨by rfl, ?hap4132q7⟩) (by assumption) ?_
              case hap4132q7 => (intro w hSw; (try dsimp only at hSw); go_simp; try with_reducible rfl)
              try simp only [Act.put, List.setIfInBounds_toArray, List.set_cons_zero, List.set_cons_succ]
              refine wpAnyH_ready (rs := [9]) (by kernel_rfl) (by simp) ?_
              refine AllReadyH.cons (o := ⟨_, _, _, _, _, _⟩) rfl (fun K hK => ?_) AllReadyH.nil
              go_simp; go_at_call 71; refine (HSX.out _).mono ?_; rintro e w3 ⟨rfl, hb3⟩
              refine hK.out _ _ (by exact PrevT.keep hb3 L1.out L2.out (by assumption)) (fun hHeld => ?_)
              clear hK K
              try simp only [Act.put, List.setIfInBounds_toArray, List.set_cons_zero, List.set_cons_succ]
              refine wpAnyH_take (i := 10) (oi := ⟨_, _, _, _, _, _⟩) (v := ?vap4132q10) rfl (by kernel_rfl) (by kernel_rfl) (by kernel_rfl) (fun _ _ _ h => h) (Or.inl ⟨by rfl, ?hap4132q10⟩) (by assumption) ?_
              case hap4132q10 => (intro w hSw; (try dsimp only at hSw); go_simp; try with_reducible rfl)
              try simp only [Act.put, List.setIfInBounds_toArray, List.set_cons_zero, List.set_cons_succ]
              refine wpAnyH_take (i := 11) (oi := ⟨_, _, _, _, _, _⟩) (v := ?vap4132q11) rfl (by kernel_rfl) (by kernel_rfl) (by kernel_rfl) (fun _ _ _ h => h) (Or.inl ⟨by rfl, ?hap4132q11⟩) (by assumption) ?_
              case hap4132q11 => (intro w hSw; (try dsimp only at hSw); go_simp; try with_reducible rfl)
              try simp only [Act.put, List.setIfInBounds_toArray, List.set_cons_zero, List.set_cons_succ]
              refine wpAnyH_take (i := 12) (oi := ⟨_, _, _, _, _, _⟩) (v := ?vap4132q12) rfl (by kernel_rfl) (by kernel_rfl) (by kernel_rfl) (fun _ _ _ h => h) (Or.inl ⟨by rfl, ?hap4132q12⟩) (by assumption) ?_
              case hap4132q12 => (intro w hSw; (try dsimp only at hSw); go_simp; try with_reducible rfl)
              try simp only [Act.put, List.setIfInBounds_toArray, List.set_cons_zero, List.set_cons_succ]
              refine wpAnyH_take (i := 13) (oi := ⟨_, _, _, _, _, _⟩) (v := ?vap4132q13) rfl (by kernel_rfl) (by kernel_rfl) (by kernel_rfl) (fun _ _ _ h => h) (Or.inl ⟨by rfl, ?hap4132q13⟩) (by assumption) ?_
              case hap4132q13 => (intro w hSw; (try dsimp only at hSw); go_simp; try with_reducible rfl)
              try simp only [Act.put, List.setIfInBounds_toArray, List.set_cons_zero, List.set_cons_succ]
              refine wpAnyH_take (i := 14) (oi := ⟨_, _, _, _, _, _⟩) (v := ?vap4132q14) rfl (by kernel_rfl) (by kernel_rfl) (by kernel_rfl) (fun _ _ _ h => h) (Or.inl ⟨by rfl, ?hap4132q14⟩) (by assumption) ?_
              case hap4132q14 => (intro w hSw; (try dsimp only at hSw); go_simp; try with_reducible rfl)
              try simp only [Act.put, List.setIfInBounds_toArray, List.set_cons_zero, List.set_cons_succ]
              refine wpAnyH_take (i := 15) (oi := ⟨_, _, _, _, _, _⟩) (v := ?vap4132q15) rfl (by kernel_rfl) (by kernel_rfl) (by kernel_rfl) (fun _ _ _ h => h) (Or.inl ⟨by rfl, ?hap4132q15⟩) (by assumption) ?_
              case hap4132q15 => (intro w hSw; (try dsimp only at hSw); go_simp; try with_reducible rfl)
              try simp only [Act.put, List.setIfInBounds_toArray, List.set_cons_zero, List.set_cons_succ]
              refine wpAnyH_take (i := 16) (oi := ⟨_, _, _, _, _, _⟩) (v := ?vap4132q16) rfl (by kernel_rfl) (by kernel_rfl) (by kernel_rfl) (fun _ _ _ h => h) (Or.inl ⟨by rfl, ?hap4132q16⟩) (by assumption) ?_
              case hap4132q16 => (intro w hSw; (try dsimp only at hSw); go_simp; try with_reducible rfl)
              try simp only [Act.put, List.setIfInBounds_toArray, List.set_cons_zero, List.set_cons_succ]
              refine wpAnyH_take (i := 17) (oi := ⟨_, _, _, _, _, _⟩) (v := ?vap4132q17) rfl (by kernel_rfl) (by kernel_rfl) (by kernel_rfl) (fun _ _ _ h => h) (Or.inl ⟨by rfl, ?hap4132q17⟩) (by assumption) ?_
              case hap4132q17 => (intro w hSw; (try dsimp only at hSw); go_simp; try with_reducible rfl)
              try simp only [Act.put, List.setIfInBounds_toArray, List.set_cons_zero, List.set_cons_succ]
              refine wpAnyH_take (i := 18) (oi := ⟨_, _, _, _, _, _⟩) (v := ?vap4132q18) rfl (by kernel_rfl) (by kernel_rfl) (by kernel_rfl) (fun _ _ _ h => h) (Or.inl ⟨by rfl, ?hap4132q18⟩) (by assumption) ?_
              case hap4132q18 => (intro w hSw; (try dsimp only at hSw); go_simp; try with_reducible rfl)
              try simp only [Act.put, List.setIfInBounds_toArray, List.set_cons_zero, List.set_cons_succ]
              refine wpAnyH_take (i := 19) (oi := ⟨_, _, _, _, _, _⟩) (v := ?vap4132q19) rfl (by kernel_rfl) (by kernel_rfl) (by kernel_rfl) (fun _ _ _ h => h) (Or.inl ⟨by rfl, ?hap4132q19⟩) (by assumption) ?_
              case hap4132q19 => (intro w hSw; (try dsimp only at hSw); go_simp; try with_reducible rfl)
              try simp only [Act.put, List.setIfInBounds_toArray, List.set_cons_zero, List.set_cons_succ]
              refine wpAnyH_take (i := 20) (oi := ⟨_, _, _, _, _, _⟩) (v := ?vap4132q20) rfl (by kernel_rfl) (by kernel_rfl) (by kernel_rfl) (fun _ _ _ h => h) (Or.inl ⟨by rfl, ?hap4132q20⟩) (by assumption) ?_
              case hap4132q20 => (intro w hSw; (try dsimp only at hSw); go_simp; try with_reducible rfl)
              try simp only [Act.put, List.setIfInBounds_toArray, List.set_cons_zero, List.set_cons_succ]
              refine wpAnyH_take (i := 21) (oi := ⟨_, _, _, _, _, _⟩) (v := ?vap4132q21) rfl (by kernel_rfl) (by kernel_rfl) (by kernel_rfl) (fun _ _ _ h => h) (Or.inl ⟨by rfl, ?hap4132q21⟩) (by assumption) ?_
              case hap4132q21 => (intro w hSw; (try dsimp only at hSw); go_simp; try with_reducible rfl)
              try simp only [Act.put, List.setIfInBounds_toArray, List.set_cons_zero, List.set_cons_succ]
              refine wpAnyH_ready (rs := [22]) (by kernel_rfl) (by simp) ?_
              refine AllReadyH.cons (o := ⟨_, _, _, _, _, _⟩) rfl (fun K hK => ?_) AllReadyH.nil
              go_simp; go_at_call 80; refine (Before_any x' y' d' x y d _).mono ?_; rintro e w3 ⟨rfl, hb3⟩; rw [HB4.out]
              refine hK.out _ _ (by exact PrevT.keep hb3 L1.out L2.out (by assumption)) (fun hHeld => ?_)
              clear hK K
              try simp only [Act.put, List.setIfInBounds_toArray, List.set_cons_zero, List.set_cons_succ]
              refine wpAnyH_take (i := 23) (oi := ⟨_, _, _, _, _, _⟩) (v := ?vap4132q23) rfl (by kernel_rfl) (by kernel_rfl) (by kernel_rfl) (fun _ _ _ h => h) (Or.inl ⟨by rfl, ?hap4132q23⟩) (by assumption) ?_
              case hap4132q23 => (intro w hSw; (try dsimp only at hSw); go_simp; try with_reducible rfl)
              try simp only [Act.put, List.setIfInBounds_toArray, List.set_cons_zero, List.set_cons_succ]
              refine wpAnyH_take (i := 24) (oi := ⟨_, _, _, _, _, _⟩) (v := ?vap4132q24) rfl (by kernel_rfl) (by kernel_rfl) (by kernel_rfl) (fun _ _ _ h => h) (Or.inl ⟨by rfl, ?hap4132q24⟩) (by assumption) ?_
              case hap4132q24 => (intro w hSw; (try dsimp only at hSw); go_simp; try with_reducible rfl)
              try simp only [Act.put, List.setIfInBounds_toArray, List.set_cons_zero, List.set_cons_succ]
              refine wpAnyH_take (i := 25) (oi := ⟨_, _, _, _, _, _⟩) (v := ?vap4132q25) rfl (by kernel_rfl) (by kernel_rfl) (by kernel_rfl) (fun _ _ _ h => h) (Or.inl ⟨by rfl, ?hap4132q25⟩) (by assumption) ?_
              case hap4132q25 => (intro w hSw; (try dsimp only at hSw); go_simp; try with_reducible rfl)
              try simp only [Act.put, List.setIfInBounds_toArray, List.set_cons_zero, List.set_cons_succ]
              refine wpAnyH_done (by kernel_rfl) ?_ _
              have HB3 := Lib.hid (HBV.out.trans ((show PrevT V _ wr.heap.size x y d (ad.add ((k - 1) * 3)) x' y' d' from by assumption).2.2.2.2.2.2.2.mono HBV.out.size))
              go_wp2_with fail
              go_ret
              exact ⟨ret_bool HF.out.symm, HB3.out⟩
            · have HB4 := Lib.hid hb4
              have HEE : Hid (upFrom (pAt R ls) (k + 1) ls.length = r) := by unfold Hid; rw [← HE.out, HP.out, HPA.out, hd, hm, hd0, hb4]; rfl
              clear HPA HP hd hm hk0' HE hb4 hd0
              refine wp_region_held_drew (S := fun w' => PrevT V w' wr.heap.size x y d (ad.add ((k - 1) * 3)) x' y' d') (by kernel_rfl) (by exact HT1.out.drew) (fun hHeld => ?_)
              refine wpAnyH_take (i := 0) (oi := ⟨_, _, _, _, _, _⟩) (v := ?vap4133q0) rfl (by kernel_rfl) (by kernel_rfl) (by kernel_rfl) (fun _ _ _ h => h) (Or.inl ⟨by rfl, ?hap4133q0⟩) (by assumption) ?_
              case hap4133q0 => (intro w hSw; (try dsimp only at hSw); go_simp; try with_reducible rfl)
              try simp only [Act.put, List.setIfInBounds_toArray, List.set_cons_zero, List.set_cons_succ]
              refine wpAnyH_ready (rs := [1]) (by kernel_rfl) (by simp) ?_
              refine AllReadyH.cons (o := ⟨_, _, _, _, _, _⟩) rfl (fun K hK => ?_) AllReadyH.nil
              go_simp; go_at_call 53; refine (DominoOk_any x y d _).mono ?_; rintro e w3 ⟨rfl, hb3⟩; rw [H1.out]
              refine hK.out _ _ (by exact PrevT.keep hb3 L1.out L2.out (by assumption)) (fun hHeld => ?_)
              clear hK K
              try simp only [Act.put, List.setIfInBounds_toArray, List.set_cons_zero, List.set_cons_succ]
              refine wpAnyH_take (i := 2) (oi := ⟨_, _, _, _, _, _⟩) (v := ?vap4133q2) rfl (by kernel_rfl) (by kernel_rfl) (by kernel_rfl) (fun _ _ _ h => h) (Or.inl ⟨by rfl, ?hap4133q2⟩) (by assumption) ?_
              case hap4133q2 => (intro w hSw; (try dsimp only at hSw); go_simp; try with_reducible rfl)
              try simp only [Act.put, List.setIfInBounds_toArray, List.set_cons_zero, List.set_cons_succ]
              refine wpAnyH_take (i := 3) (oi := ⟨_, _, _, _, _, _⟩) (v := ?vap4133q3) rfl (by kernel_rfl) (by kernel_rfl) (by kernel_rfl) (fun _ _ _ h => h) (Or.inl ⟨by rfl, ?hap4133q3⟩) (by assumption) ?_
              case hap4133q3 => (intro w hSw; (try dsimp only at hSw); go_simp; try with_reducible rfl)
              try simp only [Act.put, List.setIfInBounds_toArray, List.set_cons_zero, List.set_cons_succ]
              refine wpAnyH_take (i := 4) (oi := ⟨_, _, _, _, _, _⟩) (v := ?vap4133q4) rfl (by kernel_rfl) (by kernel_rfl) (by kernel_rfl) (fun _ _ _ h => h) (Or.inl ⟨by rfl, ?hap4133q4⟩) (by assumption) ?_
              case hap4133q4 => (intro w hSw; (try dsimp only at hSw); go_simp; try with_reducible rfl)
              try simp only [Act.put, List.setIfInBounds_toArray, List.set_cons_zero, List.set_cons_succ]
              refine wpAnyH_take (i := 5) (oi := ⟨_, _, _, _, _, _⟩) (v := ?vap4133q5) rfl (by kernel_rfl) (by kernel_rfl) (by kernel_rfl) (fun _ _ _ h => h) (Or.inl ⟨by rfl, ?hap4133q5⟩) (by assumption) ?_
              case hap4133q5 => (intro w hSw; (try dsimp only at hSw); go_simp; try with_reducible rfl)
              try simp only [Act.put, List.setIfInBounds_toArray, List.set_cons_zero, List.set_cons_succ]
              refine wpAnyH_take (i := 8) (oi := ⟨_, _, _, _, _, _⟩) (v := ?vap4133q8) rfl (by kernel_rfl) (by kernel_rfl) (by kernel_rfl) (fun _ _ _ h => h) (Or.inl ⟨by rfl, ?hap4133q8⟩) (by assumption) ?_
              case hap4133q8 => (intro w hSw; (try dsimp only at hSw); go_simp; try with_reducible rfl)
              try simp only [Act.put, List.setIfInBounds_toArray, List.set_cons_zero, List.set_cons_succ]
              refine wpAnyH_ready (rs := [6]) (by kernel_rfl) (by simp) ?_
              refine AllReadyH.cons (o := ⟨_, _, _, _, _, _⟩) rfl (fun K hK => ?_) AllReadyH.nil
              go_simp; go_at_call 71; refine (HSX.out _).mono ?_; rintro e w3 ⟨rfl, hb3⟩
              refine hK.out _ _ (by exact PrevT.keep hb3 L1.out L2.out (by assumption)) (fun hHeld => ?_)
              clear hK K
              try simp only [Act.put, List.setIfInBounds_toArray, List.set_cons_zero, List.set_cons_succ]
              refine wpAnyH_take (i := 7) (oi := ⟨_, _, _, _, _, _⟩) (v := ?vap4133q7) rfl (by kernel_rfl) (by kernel_rfl) (by kernel_rfl) (fun _ _ _ h => h) (Or.inl ⟨by rfl, ?hap4133q7⟩) (by assumption) ?_
              case hap4133q7 => (intro w hSw; (try dsimp only at hSw); go_simp; try with_reducible rfl)
              try simp only [Act.put, List.setIfInBounds_toArray, List.set_cons_zero, List.set_cons_succ]
              refine wpAnyH_ready (rs := [9]) (by kernel_rfl) (by simp) ?_
              refine AllReadyH.cons (o := ⟨_, _, _, _, _, _⟩) rfl (fun K hK => ?_) AllReadyH.nil
              go_simp; go_at_call 71; refine (HSX.out _).mono ?_; rintro e w3 ⟨rfl, hb3⟩
              refine hK.out _ _ (by exact PrevT.keep hb3 L1.out L2.out (by assumption)) (fun hHeld => ?_)
              clear hK K
              try simp only [Act.put, List.setIfInBounds_toArray, List.set_cons_zero, List.set_cons_succ]
              refine wpAnyH_take (i := 10) (oi := ⟨_, _, _, _, _, _⟩) (v := ?vap4133q10) rfl (by kernel_rfl) (by kernel_rfl) (by kernel_rfl) (fun _ _ _ h => h) (Or.inl ⟨by rfl, ?hap4133q10⟩) (by assumption) ?_
              case hap4133q10 => (intro w hSw; (try dsimp only at hSw); go_simp; try with_reducible rfl)
              try simp only [Act.put, List.setIfInBounds_toArray, List.set_cons_zero, List.set_cons_succ]
              refine wpAnyH_take (i := 11) (oi := ⟨_, _, _, _, _, _⟩) (v := ?vap4133q11) rfl (by kernel_rfl) (by kernel_rfl) (by kernel_rfl) (fun _ _ _ h => h) (Or.inl ⟨by rfl, ?hap4133q11⟩) (by assumption) ?_
              case hap4133q11 => (intro w hSw; (try dsimp only at hSw); go_simp; try with_reducible rfl)
              try simp only [Act.put, List.setIfInBounds_toArray, List.set_cons_zero, List.set_cons_succ]
              refine wpAnyH_take (i := 12) (oi := ⟨_, _, _, _, _, _⟩) (v := ?vap4133q12) rfl (by kernel_rfl) (by kernel_rfl) (by kernel_rfl) (fun _ _ _ h => h) (Or.inl ⟨by rfl, ?hap4133q12⟩) (by assumption) ?_
              case hap4133q12 => (intro w hSw; (try dsimp only at hSw); go_simp; try with_reducible rfl)
              try simp only [Act.put, List.setIfInBounds_toArray, List.set_cons_zero, List.set_cons_succ]
              refine wpAnyH_take (i := 13) (oi := ⟨_, _, _, _, _, _⟩) (v := ?vap4133q13) rfl (by kernel_rfl) (by kernel_rfl) (by kernel_rfl) (fun _ _ _ h => h) (Or.inl ⟨by rfl, ?hap4133q13⟩) (by assumption) ?_
              case hap4133q13 => (intro w hSw; (try dsimp only at hSw); go_simp; try with_reducible rfl)
              try simp only [Act.put, List.setIfInBounds_toArray, List.set_cons_zero, List.set_cons_succ]
              refine wpAnyH_take (i := 14) (oi := ⟨_, _, _, _, _, _⟩) (v := ?vap4133q14) rfl (by kernel_rfl) (by kernel_rfl) (by kernel_rfl) (fun _ _ _ h => h) (Or.inl ⟨by rfl, ?hap4133q14⟩) (by assumption) ?_
              case hap4133q14 => (intro w hSw; (try dsimp only at hSw); go_simp; try with_reducible rfl)
              try simp only [Act.put, List.setIfInBounds_toArray, List.set_cons_zero, List.set_cons_succ]
              refine wpAnyH_take (i := 15) (oi := ⟨_, _, _, _, _, _⟩) (v := ?vap4133q15) rfl (by kernel_rfl) (by kernel_rfl) (by kernel_rfl) (fun _ _ _ h => h) (Or.inl ⟨by rfl, ?hap4133q15⟩) (by assumption) ?_
              case hap4133q15 => (intro w hSw; (try dsimp only at hSw); go_simp; try with_reducible rfl)
              try simp only [Act.put, List.setIfInBounds_toArray, List.set_cons_zero, List.set_cons_succ]
              refine wpAnyH_take (i := 16) (oi := ⟨_, _, _, _, _, _⟩) (v := ?vap4133q16) rfl (by kernel_rfl) (by kernel_rfl) (by kernel_rfl) (fun _ _ _ h => h) (Or.inl ⟨by rfl, ?hap4133q16⟩) (by assumption) ?_
              case hap4133q16 => (intro w hSw; (try dsimp only at hSw); go_simp; try with_reducible rfl)
              try simp only [Act.put, List.setIfInBounds_toArray, List.set_cons_zero, List.set_cons_succ]
              refine wpAnyH_take (i := 17) (oi := ⟨_, _, _, _, _, _⟩) (v := ?vap4133q17) rfl (by kernel_rfl) (by kernel_rfl) (by kernel_rfl) (fun _ _ _ h => h) (Or.inl ⟨by rfl, ?hap4133q17⟩) (by assumption) ?_
              case hap4133q17 => (intro w hSw; (try dsimp only at hSw); go_simp; try with_reducible rfl)
              try simp only [Act.put, List.setIfInBounds_toArray, List.set_cons_zero, List.set_cons_succ]
              refine wpAnyH_take (i := 18) (oi := ⟨_, _, _, _, _, _⟩) (v := ?vap4133q18) rfl (by kernel_rfl) (by kernel_rfl) (by kernel_rfl) (fun _ _ _ h => h) (Or.inl ⟨by rfl, ?hap4133q18⟩) (by assumption) ?_
              case hap4133q18 => (intro w hSw; (try dsimp only at hSw); go_simp; try with_reducible rfl)
              try simp only [Act.put, List.setIfInBounds_toArray, List.set_cons_zero, List.set_cons_succ]
              refine wpAnyH_take (i := 19) (oi := ⟨_, _, _, _, _, _⟩) (v := ?vap4133q19) rfl (by kernel_rfl) (by kernel_rfl) (by kernel_rfl) (fun _ _ _ h => h) (Or.inl ⟨by rfl, ?hap4133q19⟩) (by assumption) ?_
              case hap4133q19 => (intro w hSw; (try dsimp only at hSw); go_simp; try with_reducible rfl)
              try simp only [Act.put, List.setIfInBounds_toArray, List.set_cons_zero, List.set_cons_succ]
              refine wpAnyH_take (i := 20) (oi := ⟨_, _, _, _, _, _⟩) (v := ?vap4133q20) rfl (by kernel_rfl) (by kernel_rfl) (by kernel_rfl) (fun _ _ _ h => h) (Or.inl ⟨by rfl, ?hap4133q20⟩) (by assumption) ?_
              case hap4133q20 => (intro w hSw; (try dsimp only at hSw); go_simp; try with_reducible rfl)
              try simp only [Act.put, List.setIfInBounds_toArray, List.set_cons_zero, List.set_cons_succ]
              refine wpAnyH_take (i := 21) (oi := ⟨_, _, _, _, _, _⟩) (v := ?vap4133q21) rfl (by kernel_rfl) (by kernel_rfl) (by kernel_rfl) (fun _ _ _ h => h) (Or.inl ⟨by rfl, ?hap4133q21⟩) (by assumption) ?_
              case hap4133q21 => (intro w hSw; (try dsimp only at hSw); go_simp; try with_reducible rfl)
              try simp only [Act.put, List.setIfInBounds_toArray, List.set_cons_zero, List.set_cons_succ]
              refine wpAnyH_ready (rs := [22]) (by kernel_rfl) (by simp) ?_
              refine AllReadyH.cons (o := ⟨_, _, _, _, _, _⟩) rfl (fun K hK => ?_) AllReadyH.nil
              go_simp; go_at_call 80; refine (Before_any x' y' d' x y d _).mono ?_; rintro e w3 ⟨rfl, hb3⟩; rw [HB4.out]
              refine hK.out _ _ (by exact PrevT.keep hb3 L1.out L2.out (by assumption)) (fun hHeld => ?_)
              clear hK K
              try simp only [Act.put, List.setIfInBounds_toArray, List.set_cons_zero, List.set_cons_succ]
              refine wpAnyH_take (i := 23) (oi := ⟨_, _, _, _, _, _⟩) (v := ?vap4133q23) rfl (by kernel_rfl) (by kernel_rfl) (by kernel_rfl) (fun _ _ _ h => h) (Or.inl ⟨by rfl, ?hap4133q23⟩) (by assumption) ?_
              case hap4133q23 => (intro w hSw; (try dsimp only at hSw); go_simp; try with_reducible rfl)
              try simp only [Act.put, List.setIfInBounds_toArray, List.set_cons_zero, List.set_cons_succ]
              refine wpAnyH_take (i := 24) (oi := ⟨_, _, _, _, _, _⟩) (v := ?vap4133q24) rfl (by kernel_rfl) (by kernel_rfl) (by kernel_rfl) (fun _ _ _ h => h) (Or.inl ⟨by rfl, ?hap4133q24⟩) (by assumption) ?_
              case hap4133q24 => (intro w hSw; (try dsimp only at hSw); go_simp; try with_reducible rfl)
              try simp only [Act.put, List.setIfInBounds_toArray, List.set_cons_zero, List.set_cons_succ]
              refine wpAnyH_take (i := 25) (oi := ⟨_, _, _, _, _, _⟩) (v := ?vap4133q25) rfl (by kernel_rfl) (by kernel_rfl) (by kernel_rfl) (fun _ _ _ h => h) (Or.inl ⟨by rfl, ?hap4133q25⟩) (by assumption) ?_
              case hap4133q25 => (intro w hSw; (try dsimp only at hSw); go_simp; try with_reducible rfl)
              try simp only [Act.put, List.setIfInBounds_toArray, List.set_cons_zero, List.set_cons_succ]
              refine wpAnyH_done (by kernel_rfl) ?_ _
              have HB3 := Lib.hid (HBV.out.trans ((show PrevT V _ wr.heap.size x y d (ad.add ((k - 1) * 3)) x' y' d' from by assumption).2.2.2.2.2.2.2.mono HBV.out.size))
              obtain ⟨f0, f1, f2, _⟩ := (show PrevT V _ wr.heap.size x y d (ad.add ((k - 1) * 3)) x' y' d' from by assumption)
              go_wp2_with fail
              refine (HSX.out _).mono ?_
              rintro e w5 ⟨rfl, hb5⟩
              have HB5 := Lib.hid (HB3.out.trans (hb5.mono HB3.out.size))
              go_wp2_with fail
              go_roundw
              case rel => exact ⟨k + 1, by omega, by go_num, by rw [HT.out, HNN.out], HEE, HB5⟩
              case measure => simp [intOf]; omega
    · have HF : Hid (r = true) := by unfold Hid; rw [← HE.out, upFrom_end _ k _ (by omega)]
      go_wp2_with fail
      go_ret
      exact ⟨ret_bool HF.out.symm, HBr.out⟩
end Go.Proofs.YtehnbalbpfmijaaGreatDoor

namespace Go.Proofs.YtehnbalbpfmijaaGreatDoor
open Go.RowKit
set_option linter.unusedVariables false

def tileB (R : Nat) (ls : List Lk) : Bool := partB R ls && (covTo ls ls.length == R)
/-- One slice in a cell of its own, in a world that grows. -/
abbrev OneS (V w' : World) (a : Nat) (u : Value) : Prop := w'.cell? ⟨a, 0, none⟩ = some u ∧ V.heap.size ≤ w'.heap.size ∧ Below V.heap.size V w'
theorem OneS.keep {V W0 w1 : World} {a : Nat} {u : Value} (hb : Below W0.heap.size W0 w1) (ha : a < V.heap.size) (h : OneS V W0 a u) : OneS V w1 a u := by
  obtain ⟨h1, h7, h8⟩ := h
  exact ⟨(hb.cell (by simp; omega)).trans h1, Nat.le_trans h7 hb.size, h8.trans (hb.mono h7)⟩
theorem OneS.drew {V W0 : World} {a : Nat} {u : Value} (h : OneS V W0 a u) : OneS V W0.drew a u := ⟨h.1, h.2.1, h.2.2.drew⟩

set_option maxRecDepth 100000 in
set_option maxHeartbeats 4000000 in
theorem IsTiling_yes (u v : Value) (zs : List Int) (ls : List Lk) (B : Nat) (w : World) (hu : RdI w B u zs) (h : RdF elDomino w B v ls) (hB : B ≤ w.heap.size) (hok : regOkB zs = true) :
    Calls Tryz.prog 34 #[.agg #[u], v] w fun e w' => e = .returned (.bool (tileB (setZ zs) ls)) ∧ Below w.heap.size w w' := by
  have HU := Lib.hid hu
  have HV := Lib.hid h
  obtain ⟨A0, c0, rfl, g10, g20, _⟩ := hu
  unfold maxLen at g20
  clear h
  have HOK := Lib.hid hok
  clear hok
  obtain ⟨W, hW, k1, hb⟩ := one_alloc w (.cells #[.slice A0 zs.length c0] 35)
  have HW := Lib.hid hW
  have HB := Lib.hid hb
  have HT0 : Hid (OneS W W w.heap.size (.slice A0 zs.length c0)) := ⟨by rw [blk_cell k1]; rfl, Nat.le_refl _, Below.refl _ _⟩
  have L1 := Lib.hid (lt_of_block k1)
  clear hW k1 hb
  cases hp : partB (setZ zs) ls
  · have HF : Hid (false = tileB (setZ zs) ls) := by unfold Hid tileB; rw [hp]; rfl
    have HPB := Lib.hid hp
    clear hp
    go_enter Tryz.func34, Tryz.ntmps34
    go_wp2_with fail
    rw [← HW.out]
    refine wp_region_held_drew (S := fun w' => OneS W w' w.heap.size (.slice A0 zs.length c0)) (by kernel_rfl) (by exact HT0.out.drew) (fun hHeld => ?_)
    refine wpAnyH_take (i := 0) (oi := ⟨_, _, _, _, _, _⟩) (v := ?vap6027q0) rfl (by kernel_rfl) (by kernel_rfl) (by kernel_rfl) (fun _ _ _ h => h) (Or.inl ⟨by rfl, ?hap6027q0⟩) (by assumption) ?_
    case hap6027q0 => (intro w hSw; (try dsimp only at hSw); go_simp; try with_reducible rfl)
    try simp only [Act.put, List.setIfInBounds_toArray, List.set_cons_zero, List.set_cons_succ]
    refine wpAnyH_take (i := 1) (oi := ⟨_, _, _, _, _, _⟩) (v := ?vap6027q1) rfl (by kernel_rfl) (by kernel_rfl) (by kernel_rfl) (fun _ _ _ h => h) (Or.inl ⟨by rfl, ?hap6027q1⟩) (by assumption) ?_
    case hap6027q1 => (intro w hSw; (try dsimp only at hSw); go_simp; try with_reducible rfl)
    try simp only [Act.put, List.setIfInBounds_toArray, List.set_cons_zero, List.set_cons_succ]
    refine wpAnyH_ready (rs := [2]) (by kernel_rfl) (by simp) ?_
    refine AllReadyH.cons (o := ⟨_, _, _, _, _, _⟩) rfl (fun K hK => ?_) AllReadyH.nil
    go_simp; go_at_call 63; refine (IsPartial_yes _ _ zs ls B _ (HU.out.below ((HB.out.trans (hHeld.2.2.mono HB.out.size)).mono hB)) (HV.out.below ((HB.out.trans (hHeld.2.2.mono HB.out.size)).mono hB)) (Nat.le_trans hB (Nat.le_trans HB.out.size hHeld.2.1)) HOK.out).mono ?_; rintro e w3 ⟨rfl, hb3⟩; rw [HPB.out]
    refine hK.out _ _ (by exact OneS.keep hb3 L1.out (by assumption)) (fun hHeld => ?_)
    clear hK K
    try simp only [Act.put, List.setIfInBounds_toArray, List.set_cons_zero, List.set_cons_succ]
    refine wpAnyH_take (i := 3) (oi := ⟨_, _, _, _, _, _⟩) (v := ?vap6027q3) rfl (by kernel_rfl) (by kernel_rfl) (by kernel_rfl) (fun _ _ _ h => h) (Or.inl ⟨by rfl, ?hap6027q3⟩) (by assumption) ?_
    case hap6027q3 => (intro w hSw; (try dsimp only at hSw); go_simp; try with_reducible rfl)
    try simp only [Act.put, List.setIfInBounds_toArray, List.set_cons_zero, List.set_cons_succ]
    refine wpAnyH_take (i := 4) (oi := ⟨_, _, _, _, _, _⟩) (v := undef) rfl (by kernel_rfl) (by kernel_rfl) (by kernel_rfl) (fun _ _ _ h => h) (Or.inr ⟨by rfl, rfl⟩) (by assumption) ?_
    try simp only [Act.put, List.setIfInBounds_toArray, List.set_cons_zero, List.set_cons_succ]
    refine wpAnyH_take (i := 5) (oi := ⟨_, _, _, _, _, _⟩) (v := undef) rfl (by kernel_rfl) (by kernel_rfl) (by kernel_rfl) (fun _ _ _ h => h) (Or.inr ⟨by rfl, rfl⟩) (by assumption) ?_
    try simp only [Act.put, List.setIfInBounds_toArray, List.set_cons_zero, List.set_cons_succ]
    refine wpAnyH_take (i := 6) (oi := ⟨_, _, _, _, _, _⟩) (v := undef) rfl (by kernel_rfl) (by kernel_rfl) (by kernel_rfl) (fun _ _ _ h => h) (Or.inr ⟨by rfl, rfl⟩) (by assumption) ?_
    try simp only [Act.put, List.setIfInBounds_toArray, List.set_cons_zero, List.set_cons_succ]
    refine wpAnyH_take (i := 7) (oi := ⟨_, _, _, _, _, _⟩) (v := undef) rfl (by kernel_rfl) (by kernel_rfl) (by kernel_rfl) (fun _ _ _ h => h) (Or.inr ⟨by rfl, rfl⟩) (by assumption) ?_
    try simp only [Act.put, List.setIfInBounds_toArray, List.set_cons_zero, List.set_cons_succ]
    refine wpAnyH_take (i := 8) (oi := ⟨_, _, _, _, _, _⟩) (v := undef) rfl (by kernel_rfl) (by kernel_rfl) (by kernel_rfl) (fun _ _ _ h => h) (Or.inr ⟨by rfl, rfl⟩) (by assumption) ?_
    try simp only [Act.put, List.setIfInBounds_toArray, List.set_cons_zero, List.set_cons_succ]
    refine wpAnyH_take (i := 9) (oi := ⟨_, _, _, _, _, _⟩) (v := ?vap6027q9) rfl (by kernel_rfl) (by kernel_rfl) (by kernel_rfl) (fun _ _ _ h => h) (Or.inl ⟨by rfl, ?hap6027q9⟩) (by assumption) ?_
    case hap6027q9 => (intro w hSw; (try dsimp only at hSw); go_simp; try with_reducible rfl)
    try simp only [Act.put, List.setIfInBounds_toArray, List.set_cons_zero, List.set_cons_succ]
    refine wpAnyH_take (i := 10) (oi := ⟨_, _, _, _, _, _⟩) (v := ?vap6027q10) rfl (by kernel_rfl) (by kernel_rfl) (by kernel_rfl) (fun _ _ _ h => h) (Or.inl ⟨by rfl, ?hap6027q10⟩) (by assumption) ?_
    case hap6027q10 => (intro w hSw; (try dsimp only at hSw); go_simp; try with_reducible rfl)
    try simp only [Act.put, List.setIfInBounds_toArray, List.set_cons_zero, List.set_cons_succ]
    refine wpAnyH_done (by kernel_rfl) ?_ _
    have HB3 := Lib.hid (HB.out.trans ((show OneS W _ w.heap.size (.slice A0 zs.length c0) from by assumption).2.2.mono HB.out.size))
    go_wp2_with fail
    go_ret
    exact ⟨ret_bool HF.out, HB3.out⟩
  · have HPB := Lib.hid hp
    obtain ⟨b, hb⟩ : ∃ b, (((covTo ls ls.length : Nat) : Int) == ((setZ zs : Nat) : Int)) = b := ⟨_, rfl⟩
    have HF : Hid (b = tileB (setZ zs) ls) := by
      unfold Hid tileB; rw [hp, Bool.true_and, ← hb, Bool.eq_iff_iff, beq_iff_eq, beq_iff_eq]; omega
    clear hp
    go_enter Tryz.func34, Tryz.ntmps34
    go_wp2_with fail
    rw [← HW.out]
    refine wp_region_held_drew (S := fun w' => OneS W w' w.heap.size (.slice A0 zs.length c0)) (by kernel_rfl) (by exact HT0.out.drew) (fun hHeld => ?_)
    refine wpAnyH_take (i := 0) (oi := ⟨_, _, _, _, _, _⟩) (v := ?vap6028q0) rfl (by kernel_rfl) (by kernel_rfl) (by kernel_rfl) (fun _ _ _ h => h) (Or.inl ⟨by rfl, ?hap6028q0⟩) (by assumption) ?_
    case hap6028q0 => (intro w hSw; (try dsimp only at hSw); go_simp; try with_reducible rfl)
    try simp only [Act.put, List.setIfInBounds_toArray, List.set_cons_zero, List.set_cons_succ]
    refine wpAnyH_take (i := 1) (oi := ⟨_, _, _, _, _, _⟩) (v := ?vap6028q1) rfl (by kernel_rfl) (by kernel_rfl) (by kernel_rfl) (fun _ _ _ h => h) (Or.inl ⟨by rfl, ?hap6028q1⟩) (by assumption) ?_
    case hap6028q1 => (intro w hSw; (try dsimp only at hSw); go_simp; try with_reducible rfl)
    try simp only [Act.put, List.setIfInBounds_toArray, List.set_cons_zero, List.set_cons_succ]
    refine wpAnyH_ready (rs := [2]) (by kernel_rfl) (by simp) ?_
    refine AllReadyH.cons (o := ⟨_, _, _, _, _, _⟩) rfl (fun K hK => ?_) AllReadyH.nil
    go_simp; go_at_call 63; refine (IsPartial_yes _ _ zs ls B _ (HU.out.below ((HB.out.trans (hHeld.2.2.mono HB.out.size)).mono hB)) (HV.out.below ((HB.out.trans (hHeld.2.2.mono HB.out.size)).mono hB)) (Nat.le_trans hB (Nat.le_trans HB.out.size hHeld.2.1)) HOK.out).mono ?_; rintro e w3 ⟨rfl, hb3⟩; rw [HPB.out]
    refine hK.out _ _ (by exact OneS.keep hb3 L1.out (by assumption)) (fun hHeld => ?_)
    clear hK K
    try simp only [Act.put, List.setIfInBounds_toArray, List.set_cons_zero, List.set_cons_succ]
    refine wpAnyH_take (i := 3) (oi := ⟨_, _, _, _, _, _⟩) (v := ?vap6028q3) rfl (by kernel_rfl) (by kernel_rfl) (by kernel_rfl) (fun _ _ _ h => h) (Or.inl ⟨by rfl, ?hap6028q3⟩) (by assumption) ?_
    case hap6028q3 => (intro w hSw; (try dsimp only at hSw); go_simp; try with_reducible rfl)
    try simp only [Act.put, List.setIfInBounds_toArray, List.set_cons_zero, List.set_cons_succ]
    refine wpAnyH_take (i := 4) (oi := ⟨_, _, _, _, _, _⟩) (v := ?vap6028q4) rfl (by kernel_rfl) (by kernel_rfl) (by kernel_rfl) (fun _ _ _ h => h) (Or.inl ⟨by rfl, ?hap6028q4⟩) (by assumption) ?_
    case hap6028q4 => (intro w hSw; (try dsimp only at hSw); go_simp; try with_reducible rfl)
    try simp only [Act.put, List.setIfInBounds_toArray, List.set_cons_zero, List.set_cons_succ]
    refine wpAnyH_take (i := 6) (oi := ⟨_, _, _, _, _, _⟩) (v := ?vap6028q6) rfl (by kernel_rfl) (by kernel_rfl) (by kernel_rfl) (fun _ _ _ h => h) (Or.inl ⟨by rfl, ?hap6028q6⟩) (by assumption) ?_
    case hap6028q6 => (intro w hSw; (try dsimp only at hSw); go_simp; try with_reducible rfl)
    try simp only [Act.put, List.setIfInBounds_toArray, List.set_cons_zero, List.set_cons_succ]
    refine wpAnyH_ready (rs := [5]) (by kernel_rfl) (by simp) ?_
    refine AllReadyH.cons (o := ⟨_, _, _, _, _, _⟩) rfl (fun K hK => ?_) AllReadyH.nil
    go_simp; go_at_call 64; refine (covered_any _ ls B _ (HV.out.below ((HB.out.trans (hHeld.2.2.mono HB.out.size)).mono hB)) (Nat.le_trans hB (Nat.le_trans HB.out.size hHeld.2.1))).mono ?_; rintro e w3 ⟨rfl, hb3⟩
    refine hK.out _ _ (by exact OneS.keep hb3 L1.out (by assumption)) (fun hHeld => ?_)
    clear hK K
    try simp only [Act.put, List.setIfInBounds_toArray, List.set_cons_zero, List.set_cons_succ]
    refine wpAnyH_ready (rs := [7]) (by kernel_rfl) (by simp) ?_
    refine AllReadyH.cons (o := ⟨_, _, _, _, _, _⟩) rfl (fun K hK => ?_) AllReadyH.nil
    go_simp; go_at_call 39; refine (rset_any _ zs B _ (HU.out.below ((HB.out.trans (hHeld.2.2.mono HB.out.size)).mono hB)) (Nat.le_trans hB (Nat.le_trans HB.out.size hHeld.2.1)) HOK.out).mono ?_; rintro e w3 ⟨rfl, hb3⟩
    refine hK.out _ _ (by exact OneS.keep hb3 L1.out (by assumption)) (fun hHeld => ?_)
    clear hK K
    try simp only [Act.put, List.setIfInBounds_toArray, List.set_cons_zero, List.set_cons_succ]
    refine wpAnyH_take (i := 8) (oi := ⟨_, _, _, _, _, _⟩) (v := ?vap6028q8) rfl (by kernel_rfl) (by kernel_rfl) (by kernel_rfl) (fun _ _ _ h => h) (Or.inl ⟨by rfl, ?hap6028q8⟩) (by assumption) ?_
    case hap6028q8 => (intro w hSw; (try dsimp only at hSw); go_simp; try with_reducible rfl)
    try simp only [Act.put, List.setIfInBounds_toArray, List.set_cons_zero, List.set_cons_succ]
    refine wpAnyH_take (i := 9) (oi := ⟨_, _, _, _, _, _⟩) (v := ?vap6028q9) rfl (by kernel_rfl) (by kernel_rfl) (by kernel_rfl) (fun _ _ _ h => h) (Or.inl ⟨by rfl, ?hap6028q9⟩) (by assumption) ?_
    case hap6028q9 => (intro w hSw; (try dsimp only at hSw); go_simp; try with_reducible rfl)
    try simp only [Act.put, List.setIfInBounds_toArray, List.set_cons_zero, List.set_cons_succ]
    refine wpAnyH_take (i := 10) (oi := ⟨_, _, _, _, _, _⟩) (v := ?vap6028q10) rfl (by kernel_rfl) (by kernel_rfl) (by kernel_rfl) (fun _ _ _ h => h) (Or.inl ⟨by rfl, ?hap6028q10⟩) (by assumption) ?_
    case hap6028q10 => (intro w hSw; (try dsimp only at hSw); go_simp; try with_reducible rfl)
    try simp only [Act.put, List.setIfInBounds_toArray, List.set_cons_zero, List.set_cons_succ]
    refine wpAnyH_done (by kernel_rfl) ?_ _
    have HB3 := Lib.hid (HB.out.trans ((show OneS W _ w.heap.size (.slice A0 zs.length c0) from by assumption).2.2.mono HB.out.size))
    go_wp2_with fail
    go_ret
    exact ⟨ret_bool HF.out, HB3.out⟩
end Go.Proofs.YtehnbalbpfmijaaGreatDoor

namespace Go.Proofs.YtehnbalbpfmijaaGreatDoor
open Go.RowKit
set_option linter.unusedVariables false

/-- The rows of a rectangle. -/
def rectZ (a b : Nat) : List Int := List.replicate b (((2 ^ a - 1 : Nat) : Int))
theorem rectZ_ok (a b : Nat) (ha : a ≤ 8) (hb : b ≤ 8) : regOkB (rectZ a b) = true := by
  unfold regOkB rectZ allB
  have h : 2 ^ a ≤ 2 ^ 8 := Nat.pow_le_pow_right (by omega) ha
  simp only [List.length_replicate, Bool.and_eq_true, decide_eq_true_eq, List.all_eq_true, inB_iff, List.mem_replicate]
  refine ⟨hb, ?_⟩
  rintro x ⟨_, rfl⟩
  omega
/-- While it is built: the result's cell, the region's cell. -/
structure RBld (w : World) (wr : World) (v : Value) (zs : List Int) : Prop where
  c0 : wr.heap[w.heap.size]? = some (.cells #[.slice none 0 0] 35 (0, 0))
  c1 : wr.heap[w.heap.size + 1]? = some (.cells #[v] 35 (0, 0))
  acc : Acc elInt w (w.heap.size + 2) wr v zs
theorem RBld.push {w wr w2 : World} {v v' : Value} {zs zs' : List Int} (h : RBld w wr v zs) (HA : Hid (Acc elInt w (w.heap.size + 2) w2 v' zs')) (HG : Hid (Grew wr.drew w2 v v')) :
    (∃ u, w2.heap[w.heap.size + 1]? = some (.cells #[u] 35 (0, 0))) ∧ RBld w (w2.setCell ⟨w.heap.size + 1, 0, none⟩ v') v' zs' := by
  have hl0 := lt_of_block h.c0
  have hl1 := lt_of_block h.c1
  have hne : ∀ k, k < w.heap.size + 2 → v.ownBlock ≠ some k := fun k hk e => by have := (h.acc.lt k e).1; omega
  have hkeep : ∀ k, k < wr.heap.size → k < w.heap.size + 2 → w2.heap[k]? = wr.heap[k]? := fun k h1 h2 => by
    rw [HG.out.1.block k h1 (fun e => hne k h2 e.symm)]; rfl
  have k0 := (hkeep _ hl0 (by omega)).trans h.c0
  have k1 := (hkeep _ hl1 (by omega)).trans h.c1
  refine ⟨⟨v, k1⟩, (Below.heap_setCell _ _ _ _ (by simp)).trans k0, (blk_setCell k1 _).trans (by simp), ?_⟩
  obtain ⟨a1, a2, a3, a4⟩ := HA.out
  refine ⟨ownsRow_keep (hi := w2.heap.size) a1 (fun k hk => (a1.lt k hk).2) fun k k1 k2 => Below.heap_setCell _ _ _ _ (by show k ≠ w.heap.size + 1; omega), a2.setCell (by show w.heap.size ≤ w.heap.size + 1; omega) _, a3, by simpa using a4⟩

set_option maxRecDepth 100000 in
set_option maxHeartbeats 2000000 in
theorem Rectangle_yes (a b : Nat) (ha : 1 ≤ a ∧ a ≤ 8) (hb : 1 ≤ b ∧ b ≤ 8) (w : World) :
    Calls Tryz.prog 12 #[.int .i64 (a : Int), .int .i64 (b : Int)] w fun e w' => ∃ u, e = .returned (.agg #[u]) ∧ RdI w' w'.heap.size u (rectZ a b) ∧ Below w.heap.size w w' := by
  have t1 : inB (a : Int) 1 8 = true := inB_true (by omega) (by omega)
  have t2 : inB (b : Int) 1 8 = true := inB_true (by omega) (by omega)
  have h8 : 2 ^ a ≤ 2 ^ 8 := Nat.pow_le_pow_right (by omega) ha.2
  obtain ⟨q, HQ⟩ : ∃ q : Nat, Hid (2 ^ a = q + 1) := ⟨2 ^ a - 1, by unfold Hid; have : 0 < 2 ^ a := Nat.pos_of_ne_zero (by simp); omega⟩
  have HZ : Hid (rectZ a b = List.replicate b (q : Int)) := by unfold Hid rectZ; rw [HQ.out]; rfl
  rw [HQ.out] at h8
  have hw1 : IntKind.i64.wrap ((2 : Int) ^ a) = (q : Int) + 1 := by
    have : ((2 : Int) ^ a) = ((2 ^ a : Nat) : Int) := by simp
    rw [this, HQ.out]
    exact IntWalk.i64_in _ (by omega)
  have hw2 : IntKind.i64.wrap (q : Int) = (q : Int) := IntWalk.i64_in _ (by omega)
  go_enter Tryz.func12, Tryz.ntmps12
  go_wp2_with fail
  refine (within_any _ _ _ _).mono ?_
  rintro e w' ⟨rfl, rfl⟩
  rw [t1]
  go_wp2_with fail
  refine (within_any _ _ _ _).mono ?_
  rintro e w' ⟨rfl, rfl⟩
  rw [t2]
  go_wp2_with fail
  obtain ⟨W, hW, k1, k2, hbW⟩ := two_alloc w (.cells #[.slice none 0 0] 35) (.cells #[.slice none 0 0] 35)
  rw [← hW]
  have HR : Hid (RBld w W (.slice none 0 0) []) := ⟨k1, k2, ⟨OwnF.nil, hbW, by omega, by rw [hW]; simp⟩⟩
  clear hW k1 k2 hbW
  go_loopw [17] (fun i wr => ∃ (k : Nat) (v : Value), k ≤ b ∧ i = .int .i64 k ∧ Hid (RBld w wr v (List.replicate k (q : Int)))) (fun i _ => b - (intOf i).toNat)
  case atStart => exact ⟨0, _, Nat.zero_le _, rfl, HR⟩
  case round =>
    obtain ⟨k, v, hk, rfl, HR⟩ := hrel
    obtain ⟨A, ca, hv, q1, q2, _⟩ := HR.out.acc.1.rd okInt
    rw [List.length_replicate] at hv q1
    subst hv
    unfold maxLen at q2
    have c1 := cell_of_one HR.out.c1
    by_cases hlt : k < b
    · have HA := Lib.hid (HR.out.acc.below ((Below.refl wr.heap.size wr).drew))
      have c1b : (wr.alloc (.cells #[.int .i64 (q : Int)] 3)).cell? ⟨w.heap.size + 1, 0, none⟩ = some (.slice A k ca) := (((Below.refl wr.heap.size wr).alloc (Nat.le_refl _) _).cell (p := ⟨w.heap.size + 1, 0, none⟩) (lt_of_block HR.out.c1)).trans c1
      go_wp2_with fail
      go_region_law (refine step_push (wr := wr.drew) okInt (by rfl) _ _ (by rfl) HA.out (by rfl) (q : Int) _ (by rfl) wr.heap.size (by rfl) (by simp) (by simp; omega) ?_; intro v' w2 HA2 HG2; obtain ⟨A2, ca2, hv2, _⟩ := HA2.out.1.rd okInt; rw [show (List.replicate k (q : Int) ++ [(q : Int)]).length = k + 1 by simp] at hv2; rw [hv2] at HA2 HG2; rw [hv2]; clear hv2; obtain ⟨⟨u9, hk9⟩, hB9⟩ := HR.out.push HA2 HG2; have ck := cell_of_one hk9; have fk := free_of_one hk9; have HB9 := Lib.hid hB9; clear hB9 hk9)
      all_goals
        go_wp2_with fail
        go_roundw
        case rel => exact ⟨k + 1, _, by omega, by go_num, by (unfold Hid; rw [List.replicate_succ']; exact HB9.out)⟩
        case measure => simp [intOf]; omega
    · obtain rfl : k = b := by omega
      have c0 := cell_of_one HR.out.c0
      have f0 := free_of_one HR.out.c0
      have HX := Lib.hid HR.out
      go_wp2_with fail
      have hl0 := lt_of_block HX.out.c0
      have hB := HX.out.acc.2.1
      have k9 : (wr.setCell ⟨w.heap.size, 0, none⟩ (.slice A k ca)).heap[w.heap.size]? = some (.cells #[.slice A k ca] 35 (0, 0)) := (blk_setCell HX.out.c0 _).trans (by simp)
      have r0 : (wr.setCell ⟨w.heap.size, 0, none⟩ (.slice A k ca)).cell? ⟨w.heap.size, 0, none⟩ = some (.slice A k ca) := cell_of_one k9
      have HN : OwnI (wr.setCell ⟨w.heap.size, 0, none⟩ (.slice A k ca)) (w.heap.size + 2) (.slice A k ca) (List.replicate k (q : Int)) :=
        ownF_int.1 (ownsRow_keep (hi := wr.heap.size) HX.out.acc.1 (fun j hj => (HX.out.acc.lt j hj).2) fun j j1 j2 => Below.heap_setCell _ _ _ _ (by show j ≠ w.heap.size; omega))
      refine bodyPost_ret (v := .agg #[.slice A k ca]) (by simp [results, Tryz.results12, go_sem, r0]) rfl ⟨_, rfl, ?_, ?_⟩
      · rw [HZ.out]; exact HN.rd
      · exact hB.setCell (Nat.le_refl _) _
end Go.Proofs.YtehnbalbpfmijaaGreatDoor

namespace Go.Proofs.YtehnbalbpfmijaaGreatDoor
open Go.RowKit
set_option linter.unusedVariables false

set_option maxRecDepth 100000 in
set_option maxHeartbeats 2000000 in
theorem specRectangle_yes (a b : Nat) (ha : 1 ≤ a ∧ a ≤ 8) (hb : 1 ≤ b ∧ b ≤ 8) (w : World) :
    Calls Tryz.prog 28 #[.int .i64 (a : Int), .int .i64 (b : Int)] w fun e w' => ∃ u, e = .returned (.agg #[u]) ∧ RdI w' w'.heap.size u (rectZ a b) ∧ Below w.heap.size w w' := by
  have t1 : inB (a : Int) 1 8 = true := inB_true (by omega) (by omega)
  have t2 : inB (b : Int) 1 8 = true := inB_true (by omega) (by omega)
  have h8 : 2 ^ a ≤ 2 ^ 8 := Nat.pow_le_pow_right (by omega) ha.2
  obtain ⟨q, HQ⟩ : ∃ q : Nat, Hid (2 ^ a = q + 1) := ⟨2 ^ a - 1, by unfold Hid; have : 0 < 2 ^ a := Nat.pos_of_ne_zero (by simp); omega⟩
  have HZ : Hid (rectZ a b = List.replicate b (q : Int)) := by unfold Hid rectZ; rw [HQ.out]; rfl
  rw [HQ.out] at h8
  have hw1 : IntKind.i64.wrap ((2 : Int) ^ a) = (q : Int) + 1 := by
    have : ((2 : Int) ^ a) = ((2 ^ a : Nat) : Int) := by simp
    rw [this, HQ.out]
    exact IntWalk.i64_in _ (by omega)
  have hw2 : IntKind.i64.wrap (q : Int) = (q : Int) := IntWalk.i64_in _ (by omega)
  go_enter Tryz.func28, Tryz.ntmps28
  go_wp2_with fail
  obtain ⟨W, hW, k1, k2, hbW⟩ := two_alloc w (.cells #[.slice none 0 0] 35) (.cells #[.slice none 0 0] 35)
  rw [← hW]
  have HR : Hid (RBld w W (.slice none 0 0) []) := ⟨k1, k2, ⟨OwnF.nil, hbW, by omega, by rw [hW]; simp⟩⟩
  clear hW k1 k2 hbW
  go_loopw [6] (fun i wr => ∃ (k : Nat) (v : Value), k ≤ b ∧ i = .int .i64 k ∧ Hid (RBld w wr v (List.replicate k (q : Int)))) (fun i _ => b - (intOf i).toNat)
  case atStart => exact ⟨0, _, Nat.zero_le _, rfl, HR⟩
  case round =>
    obtain ⟨k, v, hk, rfl, HR⟩ := hrel
    obtain ⟨A, ca, hv, q1, q2, _⟩ := HR.out.acc.1.rd okInt
    rw [List.length_replicate] at hv q1
    subst hv
    unfold maxLen at q2
    have c1 := cell_of_one HR.out.c1
    by_cases hlt : k < b
    · have HA := Lib.hid (HR.out.acc.below ((Below.refl wr.heap.size wr).drew))
      have c1b : (wr.alloc (.cells #[.int .i64 (q : Int)] 3)).cell? ⟨w.heap.size + 1, 0, none⟩ = some (.slice A k ca) := (((Below.refl wr.heap.size wr).alloc (Nat.le_refl _) _).cell (p := ⟨w.heap.size + 1, 0, none⟩) (lt_of_block HR.out.c1)).trans c1
      have ht : decide ((k : Int) < (b : Int)) = true := by simp only [decide_eq_true_eq]; omega
      go_wp2_with fail
      refine (l01In_any _ _ _ _).mono ?_
      rintro e w' ⟨rfl, rfl⟩
      rw [t1]
      go_wp2_with fail
      refine (l01In_any _ _ _ _).mono ?_
      rintro e w' ⟨rfl, rfl⟩
      rw [t2]
      go_wp2_with fail
      go_region_law (refine step_push (wr := wr.drew) okInt (by rfl) _ _ (by rfl) HA.out (by rfl) (q : Int) _ (by rfl) wr.heap.size (by rfl) (by simp) (by simp; omega) ?_; intro v' w2 HA2 HG2; obtain ⟨A2, ca2, hv2, _⟩ := HA2.out.1.rd okInt; rw [show (List.replicate k (q : Int) ++ [(q : Int)]).length = k + 1 by simp] at hv2; rw [hv2] at HA2 HG2; rw [hv2]; clear hv2; obtain ⟨⟨u9, hk9⟩, hB9⟩ := HR.out.push HA2 HG2; have ck := cell_of_one hk9; have fk := free_of_one hk9; have HB9 := Lib.hid hB9; clear hB9 hk9)
      all_goals
        go_wp2_with fail
        go_roundw
        case rel => exact ⟨k + 1, _, by omega, by go_num, by (unfold Hid; rw [List.replicate_succ']; exact HB9.out)⟩
        case measure => simp [intOf]; omega
    · obtain rfl : k = b := by omega
      have ht : decide ((k : Int) < (k : Int)) = false := by simp
      have c0 := cell_of_one HR.out.c0
      have f0 := free_of_one HR.out.c0
      have HX := Lib.hid HR.out
      go_wp2_with fail
      have hl0 := lt_of_block HX.out.c0
      have hB := HX.out.acc.2.1
      have k9 : (wr.setCell ⟨w.heap.size, 0, none⟩ (.slice A k ca)).heap[w.heap.size]? = some (.cells #[.slice A k ca] 35 (0, 0)) := (blk_setCell HX.out.c0 _).trans (by simp)
      have r0 : (wr.setCell ⟨w.heap.size, 0, none⟩ (.slice A k ca)).cell? ⟨w.heap.size, 0, none⟩ = some (.slice A k ca) := cell_of_one k9
      have HN : OwnI (wr.setCell ⟨w.heap.size, 0, none⟩ (.slice A k ca)) (w.heap.size + 2) (.slice A k ca) (List.replicate k (q : Int)) :=
        ownF_int.1 (ownsRow_keep (hi := wr.heap.size) HX.out.acc.1 (fun j hj => (HX.out.acc.lt j hj).2) fun j j1 j2 => Below.heap_setCell _ _ _ _ (by show j ≠ w.heap.size; omega))
      refine bodyPost_ret (v := .agg #[.slice A k ca]) (by simp [results, Tryz.results28, go_sem, r0]) rfl ⟨_, rfl, ?_, ?_⟩
      · rw [HZ.out]; exact HN.rd
      · exact hB.setCell (Nat.le_refl _) _
end Go.Proofs.YtehnbalbpfmijaaGreatDoor
