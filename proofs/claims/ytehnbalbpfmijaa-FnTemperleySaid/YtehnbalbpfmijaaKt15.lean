/- What the claim's walk rests on: parts TilS, DAt, TotP, TmpP, TmpQ, TmpR, ProfF, TmpF, DrawTL, Cur, CurOwn. -/
import Derived.Test.YtehnbalbpfmijaaKt12
import Derived.Test.YtehnbalbpfmijaaKt14
import Derived.Test.YtehnbalbpfmijaaKt5
import Derived.Test.YtehnbalbpfmijaaKt8
import Derived.Test.YtehnbalbpfmijaaKt2
import Derived.Test.YtehnbalbpfmijaaKt1
import Derived.Test.YtehnbalbpfmijaaKt7
import Derived.Test.YtehnbalbpfmijaaKt9
import Derived.Test.YtehnbalbpfmijaaKt4
import Derived.OneCell
import Derived.Laws.Bits128
namespace Go.Proofs.Ytehnbalbpfmijaa
open Go.RowKit
set_option linter.unusedVariables false

/-- What TilingOfTree returns. -/
def RetTil (w : World) (b : Bool) (xs : List Lk) (e : Ending) (w' : World) : Prop := ∃ u, e = .returned (.tuple #[u, .bool b]) ∧ OwnF elDomino w' w.heap.size u xs ∧ Below w.heap.size w w'
noncomputable def tilQ (p q : Int) (ls : List Lk) : List Lk := if treeB p q ls then tilZ p.toNat q.toNat ls else []
theorem spec_tilP {gw gh W H : Nat} {ls : List Lk} (hw1 : 1 ≤ gw) (hh1 : 1 ≤ gh) (hW : 2 * gw = W + 1) (hH : 2 * gh = H + 1) (hf : FloorOk gw gh) (ht : TreeOk gw gh ls) {T0 T1 : List (Int × Int)} {o0 o1 : List Lk}
    (s0 : SInv W H (fun c => decide (c ∈ ls.map lkC) == true) (iniZ gw gh true) T0 o0) (c0 : Closed W H (fun c => decide (c ∈ ls.map lkC) == true) T0 T0.length 0)
    (s1 : SInv W H (fun c => decide (c ∈ ls.map lkC) == false) (iniZ gw gh false) T1 o1) (c1 : Closed W H (fun c => decide (c ∈ ls.map lkC) == false) T1 T1.length 0) :
    TilP gw gh ls (sortI (o0 ++ o1) (o0 ++ o1).length) := by
  have eW : (W : Int) = 2 * (gw : Int) - 1 := by omega
  have eH : (H : Int) = 2 * (gh : Int) - 1 := by omega
  rw [eW, eH] at s0 c0 s1 c1
  obtain ⟨a1, a2, a3, _⟩ := ini_facts hw1 hh1 true
  obtain ⟨b1, b2, b3, _⟩ := ini_facts hw1 hh1 false
  obtain ⟨R0, d0, k0, r0, m0⟩ := stp_reach (r := 0) (init := isO) s0 c0 (fun c hc => a1 c hc) (fun c e hc he hi => a2 c e hc he hi) (fun v hv h1 => a3 v hv h1)
  obtain ⟨R1, d1, k1, r1, m1⟩ := stp_reach (r := 1) (init := out1 (2 * gw - 1) (2 * gh - 1)) s1 c1 (fun c hc => b1 c hc) (fun c e hc he hi => b2 c e hc he hi) (fun v hv h1 => b3 v hv h1)
  refine ⟨R0, d0, k0, R1, d1, k1, o0 ++ o1, r0.congr fun c => ?_, r1.congr fun c => ?_, fun x => ?_, rfl⟩
  · unfold has0
    constructor
    · rintro ⟨_, h⟩; simpa using h
    · intro h
      obtain ⟨l, hl, rfl⟩ := List.mem_map.1 h
      exact ⟨((hf.me _).1 (List.mem_map.2 ⟨l, ht.sb l hl, rfl⟩)).1, by simpa using h⟩
  · unfold has1
    constructor
    · rintro ⟨h1, h⟩; exact ⟨h1, by simpa using h⟩
    · rintro ⟨h1, h⟩; exact ⟨h1, by simpa using h⟩
  · rw [List.mem_append, m0, m1]; rfl

set_option maxRecDepth 100000 in
set_option maxHeartbeats 4000000 in
theorem specTil_any (p q : Int) (u : Value) (ls : List Lk) (B : Nat) (w : World) (hu : RdF elLink w B u ls) (hB : B ≤ w.heap.size) :
    Calls Try.prog 34 #[.int .i64 p, .int .i64 q, u] w (RetTil w (treeB p q ls) (tilQ p q ls)) := by
  have HU := Lib.hid hu
  obtain ⟨A, c, rfl, g1, g2, _⟩ := hu
  unfold maxLen at g2
  have HIT := Lib.hid (specIsTree_any p q _ ls B w HU.out hB)
  cases ht : treeB p q ls
  · have HQ : Hid (tilQ p q ls = []) := by unfold Hid tilQ; rw [ht]; simp
    rw [HQ.out]
    rw [ht] at HIT
    go_enter Try.func34, Try.ntmps34
    go_wp2_with fail
    refine HIT.out.mono ?_
    rintro e w1 ⟨rfl, hb1⟩
    have HB1 := Lib.hid hb1
    clear hb1
    go_wp2_with fail
    have HA0 : Acc elDomino w w.heap.size (w1.alloc (.cells #[] 46)) (.slice (some ⟨w1.heap.size, 0, none⟩) 0 0) [] := Acc.startAt HB1.out (Nat.le_refl _) HB1.out.size
    refine bodyPost_ret (v := .tuple #[.slice (some ⟨w1.heap.size, 0, none⟩) 0 0, .bool false]) (by simp [results, Try.results34, go_sem]) rfl ⟨_, rfl, HA0.1, HA0.2.1⟩
  · rw [ht] at HIT
    have hg : gridB p q = true := by
      unfold treeB at ht; simp only [Bool.and_eq_true] at ht; exact ht.1
    have hb := (gridB_iff _ _).1 hg
    obtain ⟨gw, rfl⟩ := Int.eq_ofNat_of_zero_le (show 0 ≤ p by omega)
    obtain ⟨gh, rfl⟩ := Int.eq_ofNat_of_zero_le (show 0 ≤ q by omega)
    obtain ⟨hg, hok⟩ := tree_ok ht
    have hf := floor_ok hg
    obtain ⟨W, hW⟩ : ∃ W, 2 * gw = W + 1 := ⟨2 * gw - 1, by omega⟩
    obtain ⟨H, hH⟩ : ∃ H, 2 * gh = H + 1 := ⟨2 * gh - 1, by omega⟩
    have hl : ∀ l ∈ ls, (0 ≤ l.1 ∧ l.1 ≤ 4) ∧ 0 ≤ l.2.1 ∧ l.2.1 ≤ 4 := fun l hl => by
      have := (lkIn_iff _ _ _).1 ((tree_facts gw gh hg).1 l (hok.sb l hl))
      exact ⟨⟨this.1, this.2.1⟩, this.2.2.1, this.2.2.2.1⟩
    have HS0 := Lib.hid (fun (V : World) (hV : Below w.heap.size w V) => Steps_any gw gh W H _ 0 true rfl (by omega) (by omega) hW hH rfl (.slice A ls.length c) ls hl B V (HU.out.below (hV.mono hB)) (Nat.le_trans hB hV.size))
    have HS1 := Lib.hid (fun (V : World) (hV : Below w.heap.size w V) => Steps_any gw gh W H _ 1 false rfl (by omega) (by omega) hW hH rfl (.slice A ls.length c) ls hl B V (HU.out.below (hV.mono hB)) (Nat.le_trans hB hV.size))
    have HFIN : Hid (∀ T0 T1 o0 o1, SInv W H (fun c => decide (c ∈ ls.map lkC) == true) (iniZ gw gh true) T0 o0 → Closed W H (fun c => decide (c ∈ ls.map lkC) == true) T0 T0.length 0 → SInv W H (fun c => decide (c ∈ ls.map lkC) == false) (iniZ gw gh false) T1 o1 → Closed W H (fun c => decide (c ∈ ls.map lkC) == false) T1 T1.length 0 → sortI (o0 ++ o1) (o0 ++ o1).length = tilQ gw gh ls) := by
      intro T0 T1 o0 o1 a b c d
      unfold tilQ
      rw [ht, if_pos rfl, Int.toNat_natCast, Int.toNat_natCast]
      exact tilZ_eq ht (spec_tilP (by omega) (by omega) hW hH hf hok a b c d)
    generalize tilQ gw gh ls = TQ at *
    clear ht hf hok hl hg hW hH
    go_enter Try.func34, Try.ntmps34
    go_wp2_with fail
    refine HIT.out.mono ?_
    rintro e w1 ⟨rfl, hb1⟩
    have HB1 := Lib.hid hb1
    clear hb1
    go_wp2_with fail
    refine (HS0.out w1 HB1.out).mono ?_
    rintro e w2 ⟨v2, T0, o0, rfl, ho2, s0, c0, l0, hb2⟩
    have HA2 : Hid (Acc elDomino w w.heap.size w2 v2 o0) := ⟨ho2.mono HB1.out.size, HB1.out.trans (hb2.mono HB1.out.size), Nat.le_refl _, Nat.le_trans HB1.out.size hb2.size⟩
    have HSC0 := Lib.hid (And.intro s0 c0)
    clear ho2 hb2 s0 c0
    go_wp2_with fail
    refine (HS1.out w2 HA2.out.2.1).mono ?_
    rintro e w3 ⟨v3, T1, o1, rfl, ho3, s1, c1, l1, hb3⟩
    have HA3 := Lib.hid (HA2.out.below hb3)
    have HR3 := Lib.hid (ho3.rd okDomino)
    have HSC1 := Lib.hid (And.intro s1 c1)
    have HE := Lib.hid (HFIN.out T0 T1 o0 o1 HSC0.out.1 HSC0.out.2 HSC1.out.1 HSC1.out.2)
    clear ho3 hb3 s1 c1 HA2 HSC0 HSC1 HFIN
    go_wp2_with (at_builtin; refine wpList_pushSrcF okDomino rfl _ _ rfl HA3.out rfl o1 _ _ HR3.out rfl (by omega) ?_; intro u4 w4 HA4 HG4)
    refine (specSortDominoes_any _ (o0 ++ o1) _ _ (HA4.out.1.rd okDomino) (Nat.le_refl _)).mono ?_
    rintro e w5 ⟨u5, rfl, ho5, hb5⟩
    rw [HE.out] at ho5
    have HO5 := Lib.hid (ho5.mono HA4.out.2.1.size)
    have HB5 := Lib.hid (HA4.out.2.1.trans (hb5.mono HA4.out.2.1.size))
    clear ho5 hb5
    go_wp2_with fail
    refine bodyPost_ret (v := .tuple #[u5, .bool true]) (by simp [results, Try.results34, go_sem]) rfl ⟨_, rfl, HO5.out, HB5.out⟩
end Go.Proofs.Ytehnbalbpfmijaa

namespace Go.Proofs.Ytehnbalbpfmijaa
open Go.RowKit
set_option linter.unusedVariables false

/-- Whether domino k of the list lies over a cell. -/
def ovC (ls : List Lk) (x y : Int) (k : Nat) : Bool := (lx ls k == x && ly ls k == y) || (sndX (lx ls k) (ld ls k) == x && sndY (ly ls k) (ld ls k) == y)
theorem eqlC (a b x y : Int) (W : World) : Sem.run Try.prog (binOp .eql 44 (.agg #[.int .i64 a, .int .i64 b]) (.agg #[.int .i64 x, .int .i64 y])) W = .ok (.bool (a == x && b == y)) W := by
  by_cases h1 : a = x
  · by_cases h2 : b = y
    · subst h1; subst h2
      rw [show (a == a && b == b) = true by simp]
      go_simp
    · rw [show (a == x && b == y) = false by simp [h2]]
      go_simp
  · rw [show (a == x && b == y) = false by simp [h1]]
    go_simp
theorem eqlC' {a b x y : Int} {r : Bool} (h : (a == x && b == y) = r) : ∀ W : World, Sem.run Try.prog (binOp .eql 44 (.agg #[.int .i64 a, .int .i64 b]) (.agg #[.int .i64 x, .int .i64 y])) W = .ok (.bool r) W := fun W => by rw [← h]; exact eqlC a b x y W

set_option maxRecDepth 100000 in
set_option maxHeartbeats 4000000 in
theorem DominoAt_yes (v : Value) (ls : List Lk) (x y : Int) (B : Nat) (w : World) (h : RdF elDomino w B v ls) (hB : B ≤ w.heap.size) (hd : ∀ k, k < ls.length → domB (lx ls k) (ly ls k) (ld ls k) = true) :
    Calls Try.prog 108 #[v, spotV x y] w fun e w' => e = .returned (.int .i64 (fstZ (ovC ls x y) ls.length 0)) ∧ Below w.heap.size w w' := by
  obtain ⟨A, c, rfl, g1, g2, G3⟩ := RdT.of (E := elDomino) rfl (fun _ => rfl) h
  unfold maxLen at g2
  have HD := Lib.hid hd
  clear h hd
  go_enter Try.func108, Try.ntmps108
  go_wp2_with fail
  obtain ⟨W, hW, k0, hb0⟩ := one_alloc w (.cells #[.int .i64 x, .int .i64 y] 44)
  rw [← hW]
  have HK := Lib.hid k0
  have HB0 := Lib.hid hb0
  have hs0 : w.heap.size < W.heap.size := lt_of_block k0
  clear hW k0 hb0
  go_loopw [5] (fun s wr => ∃ k : Nat, k ≤ ls.length ∧ s = .int .i64 k ∧ Hid (Below W.heap.size W wr) ∧ Hid (fstZ (ovC ls x y) ls.length 0 = fstZ (ovC ls x y) (ls.length - k) k)) (fun s _ => ls.length - (intOf s).toNat)
  case atStart => exact ⟨0, Nat.zero_le _, rfl, Below.refl _ _, rfl⟩
  case round =>
    obtain ⟨k, hk, rfl, HB, HF⟩ := hrel
    by_cases hlt : k < ls.length
    · obtain ⟨ad, rfl, had, hx, hy, hz⟩ := G3.out k hlt
      have hbw := HB0.out.trans (HB.out.mono HB0.out.size)
      have hdk := HD.out k hlt
      have ht : decide ((k : Int) < (ls.length : Int)) = true := by simp only [decide_eq_true_eq]; omega
      have hk0 : (0 : Int) ≤ (k : Int) := by omega
      have hk1 : (k : Int) < (ls.length : Int) := by omega
      have hL1 : (ad.add (k * 3)).block < w.heap.size := by rw [addBlock]; omega
      have HS : Hid (fstZ (ovC ls x y) (ls.length - k) k = if ovC ls x y k then (k : Int) else fstZ (ovC ls x y) (ls.length - (k + 1)) (k + 1)) := by
        unfold Hid; rw [show ls.length - k = (ls.length - (k + 1)) + 1 by omega, fstZ]
      have HE : Hid (ovC ls x y k = ((lx ls k == x && ly ls k == y) || (sndX (lx ls k) (ld ls k) == x && sndY (ly ls k) (ld ls k) == y))) := rfl
      generalize ovC ls x y k = r at *
      generalize lx ls k = p1 at *
      generalize ly ls k = p2 at *
      generalize ld ls k = p3 at *
      have hx1 := (hbw.cell (p := ad.add (k * 3)) hL1).trans hx
      have hy1 := (hbw.cell (p := ⟨(ad.add (k * 3)).block, (ad.add (k * 3)).off + 1, none⟩) hL1).trans hy
      have hz1 := (hbw.cell (p := ⟨(ad.add (k * 3)).block, (ad.add (k * 3)).off + 2, none⟩) hL1).trans hz
      have HQ := Lib.hid hbw
      have HLL := Lib.hid hL1
      have HXC := Lib.hid (And.intro hx (And.intro hy hz))
      clear hbw hx hy hz hL1
      have HDK := Lib.hid hdk
      clear hdk
      go_wp2_with fail
      refine (specDominoOk_any _ _ _ _).mono ?_
      rintro e w1 ⟨rfl, hb1⟩
      rw [HDK.out]
      have HB1 := Lib.hid (HB.out.trans (hb1.mono HB.out.size))
      have HQ1 := Lib.hid (HQ.out.trans (hb1.mono HQ.out.size))
      have hx2 := (HQ1.out.cell (p := ad.add (k * 3)) HLL.out).trans HXC.out.1
      have hy2 := (HQ1.out.cell (p := ⟨(ad.add (k * 3)).block, (ad.add (k * 3)).off + 1, none⟩) HLL.out).trans HXC.out.2.1
      have hz2 := (HQ1.out.cell (p := ⟨(ad.add (k * 3)).block, (ad.add (k * 3)).off + 2, none⟩) HLL.out).trans HXC.out.2.2
      clear hb1 hx1 hy1 hz1
      go_wp2_with fail
      refine (CellsUnder_yes _ _ _ _ HDK.out).mono ?_
      rintro e w2 ⟨rfl, hb2⟩
      have HB2 := Lib.hid (HB1.out.trans (hb2.mono HB1.out.size))
      have HQ2 := Lib.hid (HQ1.out.trans (hb2.mono HQ1.out.size))
      clear hb2 hx2 hy2 hz2
      generalize sndX p1 p3 = q1 at *
      generalize sndY p2 p3 = q2 at *
      go_upto_region 6 with (fail)
      obtain ⟨V, hV, j0, j1, hbV⟩ := two_alloc w2 (.cells #[.int .i64 p1, .int .i64 p2] 44) (.cells #[.int .i64 q1, .int .i64 q2] 44)
      rw [← hV]
      have HB3 := Lib.hid (HB2.out.trans (hbV.mono HB2.out.size))
      have HQ3 := Lib.hid (HQ2.out.trans (hbV.mono HQ2.out.size))
      have j2 := (HB3.out.block w.heap.size hs0).trans HK.out
      have a0 : V.cell? ⟨w2.heap.size, 0, none⟩ = some (.int .i64 p1) := by rw [blk_cell j0]; rfl
      have a1 : V.cell? ⟨w2.heap.size, 1, none⟩ = some (.int .i64 p2) := by rw [blk_cell j0]; rfl
      have a2 : V.cell? ⟨w2.heap.size + 1, 0, none⟩ = some (.int .i64 q1) := by rw [blk_cell j1]; rfl
      have a3 : V.cell? ⟨w2.heap.size + 1, 1, none⟩ = some (.int .i64 q2) := by rw [blk_cell j1]; rfl
      have a4 : V.cell? ⟨w.heap.size, 0, none⟩ = some (.int .i64 x) := by rw [blk_cell j2]; rfl
      have a5 : V.cell? ⟨w.heap.size, 1, none⟩ = some (.int .i64 y) := by rw [blk_cell j2]; rfl
      clear hV j0 j1 j2 hbV
      generalize hr1 : (p1 == x && p2 == y) = r1 at *
      generalize hr2 : (q1 == x && q2 == y) = r2 at *
      have hq1 := eqlC' hr1
      have hq2 := eqlC' hr2
      clear hr1 hr2
      cases r1 <;> cases r2
      case false.false =>
        have HS2 : Hid (fstZ (ovC ls x y) ls.length 0 = fstZ (ovC ls x y) (ls.length - (k + 1)) (k + 1)) := HF.out.trans (by rw [HS.out, HE.out]; rfl)
        clear HS HF HE
        go_wp2_with fail
        go_roundw
        case rel => exact ⟨k + 1, by omega, by go_num, HB3, HS2⟩
        case measure => simp [intOf]; omega
      all_goals
        have HS2 : Hid (fstZ (ovC ls x y) ls.length 0 = (k : Int)) := HF.out.trans (by rw [HS.out, HE.out]; rfl)
        clear HS HF HE
        go_wp2_with fail
        go_ret
        exact ⟨ret_int HS2.out.symm, HQ3.out⟩
    · have HF2 : Hid (fstZ (ovC ls x y) ls.length 0 = -1) := by unfold Hid; rw [HF.out, show ls.length - k = 0 by omega]; rfl
      have ht : decide ((k : Int) < (ls.length : Int)) = false := by simp only [decide_eq_false_iff_not]; omega
      go_wp2_with fail
      go_ret
      exact ⟨ret_int HF2.out.symm, HB0.out.trans (HB.out.mono HB0.out.size)⟩
end Go.Proofs.Ytehnbalbpfmijaa

namespace Go.Proofs.Ytehnbalbpfmijaa
open Go.RowKit
set_option linter.unusedVariables false

noncomputable def totB (p q : Int) (L : List Lk) : Bool := gridB p q && (treeB p q (toT p q L) && decide (tilQ p q (toT p q L) = L))
noncomputable def totZ (p q : Int) (L : List Lk) : List Lk := if totB p q L then toT p q L else []
def RetTot (w : World) (b : Bool) (xs : List Lk) (e : Ending) (w' : World) : Prop := ∃ u, e = .returned (.tuple #[u, .bool b]) ∧ OwnF elLink w' w.heap.size u xs ∧ Below w.heap.size w w'
theorem tot_grid {p q : Int} {L : List Lk} (h : gridB p q = false) : totB p q L = false := by simp [totB, h]
theorem tilQ_nat {w h : Nat} {ls : List Lk} (ht : treeB w h ls = true) : tilQ w h ls = tilZ w h ls := by
  unfold tilQ; rw [ht, if_pos rfl, Int.toNat_natCast, Int.toNat_natCast]
/-- What is no tiling has no tree. -/
theorem tot_no {p q : Int} {L : List Lk} (h : sTileB (setZ (floorZ p q)) L = false) : totB p q L = false := by
  cases hb : totB p q L
  · rfl
  · unfold totB at hb
    simp only [Bool.and_eq_true, decide_eq_true_eq] at hb
    obtain ⟨hg, ht, he⟩ := hb
    have hb := (gridB_iff _ _).1 hg
    obtain ⟨n, rfl⟩ := Int.eq_ofNat_of_zero_le (show 0 ≤ p by omega)
    obtain ⟨m, rfl⟩ := Int.eq_ofNat_of_zero_le (show 0 ≤ q by omega)
    have h1 := tilZ_til ht
    rw [← tilQ_nat ht, he] at h1
    rw [til_of h1] at h
    exact h
theorem flR_tab : ((List.range 5).all fun x => (List.range 5).all fun y => !gridB x y || regOkB (floorZ x y)) = true := by decide +kernel
theorem flR_ok {a b : Int} (hg : gridB a b = true) : regOkB (floorZ a b) = true := by
  have hb := (gridB_iff _ _).1 hg
  obtain ⟨n, rfl⟩ := Int.eq_ofNat_of_zero_le (show 0 ≤ a by omega)
  obtain ⟨m, rfl⟩ := Int.eq_ofNat_of_zero_le (show 0 ≤ b by omega)
  have h := all2 flR_tab n m (by omega) (by omega)
  rw [hg] at h
  simpa using h
theorem filter_take {α : Type} (p : α → Bool) (ls : List α) (k : Nat) (h : k < ls.length) : (ls.take (k + 1)).filter p = (ls.take k).filter p ++ if p ls[k] then [ls[k]] else [] := by
  rw [List.take_succ_eq_append_getElem h, List.filter_append]
  cases hp : p ls[k] <;> simp [hp]
/-- A list of structs of three fields that stays readable while another one grows. -/
structure KeepT (wr : World) (A : Option Addr) (ls : List Lk) (v : Value) : Prop where
  cl : ∀ k, k < ls.length → ∃ ad, A = some ad ∧ ad.block < wr.heap.size ∧ v.ownBlock ≠ some ad.block ∧ wr.cell? (ad.add (k * 3)) = some (.int .i64 (lx ls k)) ∧
      wr.cell? ⟨(ad.add (k * 3)).block, (ad.add (k * 3)).off + 1, none⟩ = some (.int .i64 (ly ls k)) ∧ wr.cell? ⟨(ad.add (k * 3)).block, (ad.add (k * 3)).off + 2, none⟩ = some (.bool (ld ls k))
theorem KeepT.below {wr w1 : World} {A : Option Addr} {ls : List Lk} {v : Value} (h : KeepT wr A ls v) (hb : Below wr.heap.size wr w1) : KeepT w1 A ls v := ⟨fun k hk => by
  obtain ⟨ad, e, h1, h2, h3, h4, h5⟩ := h.cl k hk
  have hl : (ad.add (k * 3)).block < wr.heap.size := by rw [addBlock]; exact h1
  exact ⟨ad, e, Nat.lt_of_lt_of_le h1 hb.size, h2, (hb.cell hl).trans h3, (hb.cell (p := ⟨(ad.add (k * 3)).block, (ad.add (k * 3)).off + 1, none⟩) hl).trans h4, (hb.cell (p := ⟨(ad.add (k * 3)).block, (ad.add (k * 3)).off + 2, none⟩) hl).trans h5⟩⟩
theorem cellBk {w w1 : World} {p : Addr} {b : Nat} (hp : p.block = b) (h : w1.heap[b]? = w.heap[b]?) : w1.cell? p = w.cell? p := by
  subst hp
  unfold World.cell?
  rw [h]
theorem KeepT.grew {wr w1 : World} {A : Option Addr} {ls : List Lk} {v v' : Value} (h : KeepT wr A ls v) (hG : Grew wr w1 v v') : KeepT w1 A ls v' := ⟨fun k hk => by
  obtain ⟨g1, g, g2, g3, g4⟩ := hG
  obtain ⟨ad, e, h1, h2, h3, h4, h5⟩ := h.cl k hk
  have hb := g1.block ad.block h1 (fun q => h2 q.symm)
  have hl : (ad.add (k * 3)).block = ad.block := addBlock _ _
  refine ⟨ad, e, Nat.lt_of_lt_of_le h1 g1.size, fun q => ?_, (cellBk hl hb).trans h3, (cellBk (p := ⟨(ad.add (k * 3)).block, (ad.add (k * 3)).off + 1, none⟩) hl hb).trans h4, (cellBk (p := ⟨(ad.add (k * 3)).block, (ad.add (k * 3)).off + 2, none⟩) hl hb).trans h5⟩
  rw [g2] at q
  obtain rfl := Option.some.inj q
  rcases g3 with g3 | g3
  · exact h2 g3
  · omega⟩
/-- The same for what was there before the call. -/
theorem KeepT.of {w : World} {lo : Nat} {n c : Nat} {A : Option Addr} {ls : List Lk} {v : Value} (hr : RdF elLink w w.heap.size (.slice A n c) ls) (ho : ∀ g, (Value.slice A n c).ownBlock = some g → lo ≤ g) (hv : ∀ g, v.ownBlock = some g → g < lo) : KeepT w A ls v := ⟨fun k hk => by
  obtain ⟨A', c', e, _, _, G⟩ := RdT.of (E := elLink) rfl (fun _ => rfl) hr
  simp only [Value.slice.injEq] at e
  obtain ⟨rfl, _, _⟩ := e
  obtain ⟨ad, ea, h1, h2, h3, h4⟩ := G.out k hk
  subst ea
  exact ⟨ad, rfl, h1, fun q => by have := ho ad.block rfl; have := hv _ q; omega, h2, h3, h4⟩⟩
end Go.Proofs.Ytehnbalbpfmijaa

namespace Go.Proofs.Ytehnbalbpfmijaa
open Go.RowKit
set_option linter.unusedVariables false

theorem peelV (V T : Int × Int → Prop) (d : Int × Int → Int × Int) (rk : Int × Int → Nat) (M : Nat) (r : Int)
    (hV : ∀ v, V v → v.1 % 2 = r ∧ v.2 % 2 = r) (hd : ∀ v, V v → d v ∈ dirs4)
    (pre : ∀ u, V u → V (pad (pad u (d u)) (d u)) → T (pad (pad u (d u)) (d u)) → T u)
    (hr : ∀ u, V u → T u → V (pad (pad u (d u)) (d u)) → rk (pad (pad u (d u)) (d u)) < rk u)
    (hM : ∀ u, V u → T u → rk u ≤ M) (S : Int × Int → Bool)
    (own : ∀ v e, V v → e ∈ dirs4 → S (sideA v e) ≠ S (sideB v e) → ∃ u, V u ∧ pad u (d u) = pad v e) :
    ∀ v, V v → T v → S (sideA v (d v)) = S (sideB v (d v)) := by
  have key : ∀ j v, V v → T v → M < rk v + j → S (sideA v (d v)) = S (sideB v (d v)) := by
    intro j
    induction j with
    | zero => intro v h1 h2 h3; have := hM v h1 h2; omega
    | succ j ih =>
      intro v h1 h2 h3
      refine Decidable.byContradiction fun h => ?_
      obtain ⟨e, he1, he2, he3⟩ := even_two S v (d v) (hd v h1) h
      obtain ⟨u, hu, hue⟩ := own v e h1 he1 he3
      rcases two_ends (hV u hu) (hV v h1) (hd u hu) he1 hue with ⟨rfl, q⟩ | ⟨q1, q2, q3⟩
      · exact he2 q.symm
      · have hvu : V (pad (pad u (d u)) (d u)) := by rw [← q3]; exact h1
        have htu : T u := pre u hu hvu (by rw [← q3]; exact h2)
        have hru := hr u hu htu hvu
        rw [← q3] at hru
        have hS := ih u hu htu (by omega)
        rw [q2, q1, side_neg.1, side_neg.2] at hS
        exact he3 hS.symm
  intro v h1 h2
  exact key (M + 1) v h1 h2 (by omega)

/-! ### The ways of a tiling -/
theorem over_pad {v e : Int × Int} (he : e ∈ dirs4) : overL (pad v e).1 (pad v e).2 v.1 v.2 = (if e = (1, 0) then (v.1, v.2, false) else if e = (0, 1) then (v.1, v.2, true) else if e = (-1, 0) then (v.1 - 1, v.2, false) else (v.1, v.2 - 1, true)) := by
  obtain ⟨x, y⟩ := v
  rcases (dirs4_iff e).1 he with rfl | rfl | rfl | rfl <;> simp [pad, overL] <;> omega
theorem over_inj {c e f : Int × Int} (he : e ∈ dirs4) (hf : f ∈ dirs4) (h : overL (pad c e).1 (pad c e).2 c.1 c.2 = overL (pad c f).1 (pad c f).2 c.1 c.2) : e = f := by
  rw [over_pad he, over_pad hf] at h
  obtain ⟨x, y⟩ := c
  rcases (dirs4_iff e).1 he with rfl | rfl | rfl | rfl <;> rcases (dirs4_iff f).1 hf with rfl | rfl | rfl | rfl <;> simp at h ⊢ <;> omega
section
variable {w h : Nat} {L : List Lk}
theorem box_i {v : Int × Int} (hv : inW 8 8 v) : cix v.1.toNat v.2.toNat < 64 ∧ cellI (cix v.1.toNat v.2.toNat) = v := by
  obtain ⟨x, y⟩ := v
  obtain ⟨⟨h1, h2⟩, h3, h4⟩ := hv
  simp only at h1 h2 h3 h4
  exact ⟨by unfold cix; simp only; omega, (cellI_of (by omega) (by omega)).1 rfl⟩
theorem in8 (hg : gridB w h = true) {v : Int × Int} (hv : inW (2 * w - 1) (2 * h - 1) v) : inW 8 8 v := by
  have hb := (gridB_iff _ _).1 hg
  unfold inW at hv ⊢
  omega
/-- Each cell of the floor but the first lies under a domino. -/
theorem cover_dir (hg : gridB w h = true) (ht : Til (setZ (floorZ w h)) L) {v : Int × Int} (hv : inW (2 * w - 1) (2 * h - 1) v) (h0 : v ≠ (0, 0)) : ∃ e, e ∈ dirs4 ∧ overL (pad v e).1 (pad v e).2 v.1 v.2 ∈ L := by
  obtain ⟨hi, hc⟩ := box_i (in8 hg hv)
  have hcc := ht.cv _ hi
  rw [(floor_bit hg hi).2 (by rw [hc]; exact ⟨hv, h0⟩), if_pos rfl] at hcc
  obtain ⟨d, hd, ho⟩ := cc_get (ls := L) (i := cix v.1.toNat v.2.toNat) (by omega)
  have hdm := ht.so.2 d hd
  obtain ⟨x, y, b⟩ := d
  rcases (ovr_cells hdm hc).1 ho with e | e
  · subst e
    cases b
    · exact ⟨(1, 0), by simp [dirs4], by rw [over_pad (by simp [dirs4])]; simpa using hd⟩
    · exact ⟨(0, 1), by simp [dirs4], by rw [over_pad (by simp [dirs4])]; simpa using hd⟩
  · subst e
    cases b
    · exact ⟨(-1, 0), by simp [dirs4], by rw [over_pad (by simp [dirs4])]; simpa [sx, sy] using hd⟩
    · exact ⟨(0, -1), by simp [dirs4], by rw [over_pad (by simp [dirs4])]; simpa [sx, sy] using hd⟩
theorem over_cells {v e : Int × Int} (he : e ∈ dirs4) {c : Int × Int} (hc : c = v ∨ c = pad v e) (d : Lk) (hd : overL (pad v e).1 (pad v e).2 v.1 v.2 = d) : c = (d.1, d.2.1) ∨ c = (sx d.1 d.2.2, sy d.2.1 d.2.2) := by
  subst hd
  rw [over_pad he]
  obtain ⟨x, y⟩ := v
  rcases hc with rfl | rfl <;> rcases (dirs4_iff e).1 he with rfl | rfl | rfl | rfl <;> simp [pad, sx, sy] <;> omega
/-- Both cells of a domino lie in the floor. -/
theorem dom_in (hg : gridB w h = true) (ht : Til (setZ (floorZ w h)) L) {v e : Int × Int} (he : e ∈ dirs4) (hd : overL (pad v e).1 (pad v e).2 v.1 v.2 ∈ L) {c : Int × Int} (hc : c = v ∨ c = pad v e) : (inW (2 * w - 1) (2 * h - 1) c ∧ c ≠ (0, 0)) ∧ cix c.1.toNat c.2.toNat < 64 ∧ ovr (overL (pad v e).1 (pad v e).2 v.1 v.2) (cix c.1.toNat c.2.toNat) = true := by
  have hdm := ht.so.2 _ hd
  have hcs := over_cells he hc _ rfl
  generalize overL (pad v e).1 (pad v e).2 v.1 v.2 = d at *
  have h8 : inW 8 8 c := by
    obtain ⟨x, y, b⟩ := d
    have hdb := (domB_iff _ _ _).1 hdm
    simp only at hdb hcs
    unfold inW
    cases b <;> simp [sx, sy] at hdb hcs <;> rcases hcs with rfl | rfl <;> simp <;> omega
  obtain ⟨hi, hcI⟩ := box_i h8
  have ho := (ovr_cells hdm hcI).2 hcs
  refine ⟨?_, hi, ho⟩
  have hcc := ht.cv _ hi
  have hpos : 0 < cc L (cix c.1.toNat c.2.toNat) := List.countP_pos_iff.2 ⟨d, hd, ho⟩
  have hb : (setZ (floorZ w h)).testBit (cix c.1.toNat c.2.toNat) = true := by
    cases hb : (setZ (floorZ w h)).testBit (cix c.1.toNat c.2.toNat)
    · rw [hb] at hcc; simp at hcc; omega
    · rfl
  have := (floor_bit hg hi).1 hb
  rwa [hcI] at this
/-- Two dominoes over one cell are the same. -/
theorem dom_one (hg : gridB w h = true) (ht : Til (setZ (floorZ w h)) L) {v e u f c : Int × Int} (he : e ∈ dirs4) (hf : f ∈ dirs4) (hd : overL (pad v e).1 (pad v e).2 v.1 v.2 ∈ L) (hd2 : overL (pad u f).1 (pad u f).2 u.1 u.2 ∈ L) (hc : c = v ∨ c = pad v e) (hc2 : c = u ∨ c = pad u f) : overL (pad v e).1 (pad v e).2 v.1 v.2 = overL (pad u f).1 (pad u f).2 u.1 u.2 := by
  obtain ⟨_, h1, h2⟩ := dom_in hg ht he hd hc
  obtain ⟨_, _, h3⟩ := dom_in hg ht hf hd2 hc2
  refine cc_only ht.so.nodup (i := cix c.1.toNat c.2.toNat) ?_ hd hd2 h2 h3
  rw [ht.cv _ h1]; split <;> omega
theorem par_pad {v e : Int × Int} (he : e ∈ dirs4) : ((pad v e).1 + (pad v e).2) % 2 = 1 - (v.1 + v.2) % 2 := by
  obtain ⟨x, y⟩ := v
  rcases (dirs4_iff e).1 he with rfl | rfl | rfl | rfl <;> simp [pad] <;> omega
open Classical in
theorem til_ways (hg : gridB w h = true) (ht : Til (setZ (floorZ w h)) L) : ∃ D, Ways w h (nodes0 w h ++ nodes1 w h) D ∧ ∀ d, d ∈ L ↔ ∃ v, v ∈ nodes0 w h ++ nodes1 w h ∧ d = wayD D v := by
  have hf := floor_ok hg
  let D : Int × Int → Int × Int := fun v => if hx : ∃ e, e ∈ dirs4 ∧ overL (pad v e).1 (pad v e).2 v.1 v.2 ∈ L then hx.choose else (1, 0)
  have hD : ∀ v, inW (2 * w - 1) (2 * h - 1) v → v ≠ (0, 0) → D v ∈ dirs4 ∧ overL (pad v (D v)).1 (pad v (D v)).2 v.1 v.2 ∈ L := fun v hv h0 => by
    have hx := cover_dir hg ht hv h0
    simp only [D]
    rw [dif_pos hx]
    exact hx.choose_spec
  have hmv : ∀ v, v ∈ nodes0 w h ++ nodes1 w h ↔ inW (2 * w - 1) (2 * h - 1) v ∧ (v.1 + v.2) % 2 = 0 ∧ v ≠ (0, 0) := fun v => by
    rw [List.mem_append, hf.m0, hf.m1]
    constructor
    · rintro (⟨h1, h2, h3⟩ | ⟨h1, h2, h3⟩)
      · exact ⟨h1, by omega, h3⟩
      · exact ⟨h1, by omega, fun e => by subst e; simp at h2⟩
    · rintro ⟨h1, h2, h3⟩
      by_cases hp : v.1 % 2 = 0
      · exact .inl ⟨h1, ⟨hp, by omega⟩, h3⟩
      · exact .inr ⟨h1, by omega, by omega⟩
  have hDv : ∀ v ∈ nodes0 w h ++ nodes1 w h, D v ∈ dirs4 ∧ overL (pad v (D v)).1 (pad v (D v)).2 v.1 v.2 ∈ L := fun v hv => hD v ((hmv v).1 hv).1 ((hmv v).1 hv).2.2
  -- a domino of the tiling at a node is its way
  have huni : ∀ v e, v ∈ nodes0 w h ++ nodes1 w h → e ∈ dirs4 → overL (pad v e).1 (pad v e).2 v.1 v.2 ∈ L → D v = e := fun v e hv he hm =>
    over_inj (hDv v hv).1 he (dom_one hg ht (hDv v hv).1 he (hDv v hv).2 hm (c := v) (.inl rfl) (.inl rfl))
  -- turned round
  have hturn : ∀ {c e : Int × Int}, overL (pad c e).1 (pad c e).2 c.1 c.2 = overL (pad (pad c e) (neg e)).1 (pad (pad c e) (neg e)).2 (pad c e).1 (pad c e).2 := fun {c e} => by rw [pad_back.1, over_comm]
  have hall : ∀ c, inW (2 * w - 1) (2 * h - 1) c → (c.1 + c.2) % 2 = 1 → ∃ v ∈ nodes0 w h ++ nodes1 w h, pad v (D v) = c := fun c hc hp => by
    obtain ⟨e, he, hm⟩ := cover_dir hg ht hc (fun q => by subst q; simp at hp)
    have hin := (dom_in hg ht he hm (c := pad c e) (.inr rfl)).1
    have hv : pad c e ∈ nodes0 w h ++ nodes1 w h := (hmv _).2 ⟨hin.1, by rw [par_pad he, hp]; rfl, hin.2⟩
    rw [hturn] at hm
    refine ⟨_, hv, ?_⟩
    rw [huni _ _ hv (neg_dir he) hm, pad_back.1]
  refine ⟨D, ⟨?_, hmv, fun v hv => (hDv v hv).1, fun v hv => ⟨(dom_in hg ht (hDv v hv).1 (hDv v hv).2 (.inr rfl)).1.1, by rw [par_pad (hDv v hv).1, ((hmv v).1 hv).2.1]; rfl⟩, fun u hu v hv e => ?_, hall⟩, fun d => ⟨fun hd => ?_, ?_⟩⟩
  · refine List.nodup_append.2 ⟨hf.n0, hf.n1, fun a ha b hb e => ?_⟩
    subst e
    have h1 := ((hf.m0 a).1 ha).2.1.1
    have h2 := ((hf.m1 a).1 hb).2.1
    omega
  · have h1 := dom_one hg ht (hDv u hu).1 (hDv v hv).1 (hDv u hu).2 (hDv v hv).2 (c := pad u (D u)) (.inr rfl) (.inr e)
    rw [hturn, hturn (c := v), ← e] at h1
    have := over_inj (neg_dir (hDv u hu).1) (neg_dir (hDv v hv).1) h1
    have e2 : pad (pad u (D u)) (neg (D u)) = pad (pad u (D u)) (neg (D v)) := by rw [this]
    rw [pad_back.1, e, pad_back.1] at e2
    exact e2
  · have hdm := ht.so.2 d hd
    obtain ⟨x, y, b⟩ := d
    obtain ⟨e, he, hq⟩ : ∃ e, e ∈ dirs4 ∧ overL (pad (x, y) e).1 (pad (x, y) e).2 x y = (x, y, b) := by
      cases b
      · exact ⟨(1, 0), by simp [dirs4], by have := over_pad (v := (x, y)) (e := (1, 0)) (by simp [dirs4]); simpa using this⟩
      · exact ⟨(0, 1), by simp [dirs4], by have := over_pad (v := (x, y)) (e := (0, 1)) (by simp [dirs4]); simpa using this⟩
    have hm : overL (pad (x, y) e).1 (pad (x, y) e).2 x y ∈ L := by rw [hq]; exact hd
    by_cases hp : (x + y) % 2 = 0
    · have hin := (dom_in (v := (x, y)) hg ht he hm (c := (x, y)) (.inl rfl)).1
      have hv : (x, y) ∈ nodes0 w h ++ nodes1 w h := (hmv _).2 ⟨hin.1, hp, hin.2⟩
      refine ⟨_, hv, ?_⟩
      unfold wayD
      rw [huni _ _ hv he hm, hq]
    · have hin := (dom_in (v := (x, y)) hg ht he hm (c := pad (x, y) e) (.inr rfl)).1
      have hv : pad (x, y) e ∈ nodes0 w h ++ nodes1 w h := (hmv _).2 ⟨hin.1, by rw [par_pad he]; simp only; omega, hin.2⟩
      have hm2 := hm
      rw [hturn (c := (x, y))] at hm2
      refine ⟨_, hv, ?_⟩
      unfold wayD
      rw [huni _ _ hv (neg_dir he) hm2, ← hturn (c := (x, y)), hq]
  · rintro ⟨v, hv, rfl⟩
    exact (hDv v hv).2
end
end Go.Proofs.Ytehnbalbpfmijaa

namespace Go.Proofs.Ytehnbalbpfmijaa
open Go.RowKit
set_option linter.unusedVariables false

abbrev nxt (D : Int × Int → Int × Int) (v : Int × Int) : Int × Int := pad (pad v (D v)) (D v)
def comes (D : Int × Int → Int × Int) (G : Int × Int → Prop) : Nat → Int × Int → Prop
  | 0, v => G v
  | k + 1, v => comes D G k (nxt D v)
def Tg (D : Int × Int → Int × Int) (G : Int × Int → Prop) (v : Int × Int) : Prop := ∃ k, comes D G k v
open Classical in
noncomputable def rkg (D : Int × Int → Int × Int) (G : Int × Int → Prop) (v : Int × Int) : Nat := if hx : ∃ k, comes D G k v ∧ ∀ m, m < k → ¬ comes D G m v then hx.choose else 0
theorem rkg_spec {D : Int × Int → Int × Int} {G : Int × Int → Prop} {v : Int × Int} (h : Tg D G v) : comes D G (rkg D G v) v ∧ ∀ m, m < rkg D G v → ¬ comes D G m v := by
  obtain ⟨n, hn⟩ := h
  have hx := least_of (p := fun n => comes D G n v) n hn
  unfold rkg
  rw [dif_pos hx]
  exact hx.choose_spec
theorem rkg_next {D : Int × Int → Int × Int} {G : Int × Int → Prop} {u : Int × Int} (h : Tg D G u) (hG : ¬ G u) : Tg D G (nxt D u) ∧ rkg D G (nxt D u) < rkg D G u := by
  obtain ⟨h1, h2⟩ := rkg_spec h
  revert h1 h2
  cases rkg D G u with
  | zero => intro h1; exact absurd h1 hG
  | succ m =>
    intro h1 h2
    have h3 : comes D G m (nxt D u) := h1
    refine ⟨⟨m, h3⟩, ?_⟩
    have h4 := (rkg_spec ⟨m, h3⟩).2
    refine Nat.lt_of_not_le fun hle => h4 m hle h3
theorem Tg_pre {D : Int × Int → Int × Int} {G : Int × Int → Prop} {u : Int × Int} (h : Tg D G (nxt D u)) : Tg D G u := by
  obtain ⟨k, hk⟩ := h; exact ⟨k + 1, hk⟩
theorem cross {r : Int} {u v d e : Int × Int} (hr : r = 0 ∨ r = 1) (hu : u.1 % 2 = r ∧ u.2 % 2 = r) (hv : v.1 % 2 = 1 - r ∧ v.2 % 2 = 1 - r) (hd : d ∈ dirs4) (he : e ∈ dirs4) (h : pad u d = pad v e) :
    (sideA v e = u ∧ sideB v e = pad (pad u d) d) ∨ (sideB v e = u ∧ sideA v e = pad (pad u d) d) := by
  obtain ⟨u1, u2⟩ := u
  obtain ⟨v1, v2⟩ := v
  obtain ⟨h1, h2⟩ := hu
  obtain ⟨h3, h4⟩ := hv
  rcases (dirs4_iff d).1 hd with rfl | rfl | rfl | rfl <;> rcases (dirs4_iff e).1 he with rfl | rfl | rfl | rfl <;>
    simp [pad, neg, sideA, sideB, perp] at h h1 h2 h3 h4 ⊢ <;> omega
/-- A cell beside an inner cell of odd place lies in the floor. -/
theorem odd_in {W H : Int} {g e : Int × Int} (hW : W % 2 = 1) (hH : H % 2 = 1) (hg : inW W H g) (hp : g.1 % 2 = 1 ∧ g.2 % 2 = 1) (he : e ∈ dirs4) : inW W H (pad g e) := by
  obtain ⟨x, y⟩ := g
  obtain ⟨⟨h1, h2⟩, h3, h4⟩ := hg
  simp only at h1 h2 h3 h4 hp
  rcases (dirs4_iff e).1 he with rfl | rfl | rfl | rfl <;> simp [pad, inW] <;> omega
theorem even_next {W H : Int} {g e : Int × Int} (hW : W % 2 = 1) (hH : H % 2 = 1) (hg : inW W H g) (hp : g.1 % 2 = 0 ∧ g.2 % 2 = 0) (he : e ∈ dirs4) (hc : inW W H (pad g e)) : inW W H (pad (pad g e) e) := by
  obtain ⟨x, y⟩ := g
  obtain ⟨⟨h1, h2⟩, h3, h4⟩ := hg
  simp only at h1 h2 h3 h4 hp
  rcases (dirs4_iff e).1 he with rfl | rfl | rfl | rfl <;> simp [pad, inW] at hc ⊢ <;> omega
theorem mid_in {W H : Int} {g e : Int × Int} (hg : inW W H g) (he : e ∈ dirs4) (hc : inW W H (pad (pad g e) e)) : inW W H (pad g e) := by
  obtain ⟨x, y⟩ := g
  obtain ⟨⟨h1, h2⟩, h3, h4⟩ := hg
  simp only at h1 h2 h3 h4
  rcases (dirs4_iff e).1 he with rfl | rfl | rfl | rfl <;> simp [pad, inW] at hc ⊢ <;> omega
open Classical in
theorem all_come {w h : Nat} (hg : gridB w h = true) {D : Int × Int → Int × Int} (k : Ways w h (nodes0 w h ++ nodes1 w h) D) : (∀ v ∈ nodes0 w h, Tg D isO v) ∧ ∀ v ∈ nodes1 w h, Tg D (out1 (2 * w - 1) (2 * h - 1)) v := by
  have hf := floor_ok hg
  obtain ⟨⟨a1, a2⟩, a3, a4⟩ := (gridB_iff _ _).1 hg
  obtain ⟨W, hW⟩ : ∃ W : Int, W = 2 * w - 1 := ⟨_, rfl⟩
  obtain ⟨H, hH⟩ : ∃ H : Int, H = 2 * h - 1 := ⟨_, rfl⟩
  have hW2 : W % 2 = 1 := by omega
  have hH2 : H % 2 = 1 := by omega
  have m0 := hf.m0
  have m1 := hf.m1
  have kd := k.dr
  have ke := k.ed
  have ka := k.all
  simp only [← hW, ← hH] at m0 m1 ke ka ⊢
  let S0 : Int × Int → Bool := fun p => decide (p ∈ nodes0 w h ∧ ¬ Tg D isO p)
  let S1 : Int × Int → Bool := fun p => decide (p ∈ nodes1 w h ∧ ¬ Tg D (out1 W H) p)
  have s0 : ∀ p, S0 p = true ↔ p ∈ nodes0 w h ∧ ¬ Tg D isO p := fun p => by simp [S0]
  have s1 : ∀ p, S1 p = true ↔ p ∈ nodes1 w h ∧ ¬ Tg D (out1 W H) p := fun p => by simp [S1]
  have in0 : ∀ v, v ∈ nodes0 w h → v ∈ nodes0 w h ++ nodes1 w h := fun v hv => List.mem_append.2 (.inl hv)
  have in1 : ∀ v, v ∈ nodes1 w h → v ∈ nodes0 w h ++ nodes1 w h := fun v hv => List.mem_append.2 (.inr hv)
  have par0 : ∀ v ∈ nodes0 w h, v.1 % 2 = 0 ∧ v.2 % 2 = 0 := fun v hv => ((m0 v).1 hv).2.1
  have par1 : ∀ v ∈ nodes1 w h, v.1 % 2 = 1 ∧ v.2 % 2 = 1 := fun v hv => ((m1 v).1 hv).2
  have z0 : S0 (0, 0) = false := by
    cases hz : S0 (0, 0)
    · rfl
    · exact absurd rfl ((m0 _).1 ((s0 _).1 hz).1).2.2
  have same0 : ∀ u, u ∈ nodes0 w h → S0 u = S0 (nxt D u) := fun u hu => by
    have hu0 := (m0 u).1 hu
    have hn := even_next hW2 hH2 hu0.1 hu0.2.1 (kd u (in0 u hu)) (ke u (in0 u hu)).1
    have hp := par_two (kd u (in0 u hu)) hu0.2.1
    rw [Bool.eq_iff_iff, s0, s0]
    by_cases hz : nxt D u = (0, 0)
    · have hT : Tg D isO u := ⟨1, hz⟩
      refine ⟨fun q => absurd hT q.2, fun q => ?_⟩
      rw [hz] at q
      exact absurd rfl ((m0 _).1 q.1).2.2
    · refine ⟨fun q => ⟨(m0 _).2 ⟨hn, hp, hz⟩, fun t => q.2 (Tg_pre t)⟩, fun q => ⟨hu, fun t => q.2 (rkg_next t hu0.2.2).1⟩⟩
  have same1 : ∀ u, u ∈ nodes1 w h → S1 u = S1 (nxt D u) := fun u hu => by
    have hu0 := (m1 u).1 hu
    have hp := par_two (kd u (in1 u hu)) hu0.2
    rw [Bool.eq_iff_iff, s1, s1]
    by_cases hz : nxt D u ∈ nodes1 w h
    · refine ⟨fun q => ⟨hz, fun t => q.2 (Tg_pre t)⟩, fun q => ⟨hu, fun t => q.2 (rkg_next t (fun o => o.2 hu0.1)).1⟩⟩
    · have hT : Tg D (out1 W H) u := ⟨1, hp, fun q => hz ((m1 _).2 ⟨q, hp⟩)⟩
      exact ⟨fun q => absurd hT q.2, fun q => absurd q.1 hz⟩
  have owner : ∀ c, inW W H c → (c.1 + c.2) % 2 = 1 → ∃ u, (u ∈ nodes0 w h ∨ u ∈ nodes1 w h) ∧ pad u (D u) = c := fun c h1 h2 => by
    obtain ⟨u, hu, e⟩ := ka c h1 h2
    exact ⟨u, List.mem_append.1 hu, e⟩
  have own1 : ∀ v e, v ∈ nodes1 w h → e ∈ dirs4 → S0 (sideA v e) ≠ S0 (sideB v e) → ∃ u, u ∈ nodes1 w h ∧ pad u (D u) = pad v e := fun v e hv he hne => by
    have hv1 := (m1 v).1 hv
    obtain ⟨u, hu | hu, e1⟩ := owner (pad v e) (odd_in hW2 hH2 hv1.1 hv1.2 he) (by rw [par_pad he]; omega)
    · exfalso
      have hs := same0 u hu
      rcases cross (r := 0) (.inl rfl) (par0 u hu) (by simpa using hv1.2) (kd u (in0 u hu)) he e1 with ⟨q1, q2⟩ | ⟨q1, q2⟩
      · exact hne (by rw [q1, q2]; exact hs)
      · exact hne (by rw [q1, q2]; exact hs.symm)
    · exact ⟨u, hu, e1⟩
  have own0 : ∀ v e, v ∈ nodes0 w h → e ∈ dirs4 → S1 (sideA v e) ≠ S1 (sideB v e) → ∃ u, u ∈ nodes0 w h ∧ pad u (D u) = pad v e := fun v e hv he hne => by
    have hv0 := (m0 v).1 hv
    have hpd : perp e ∈ dirs4 := by rcases (dirs4_iff e).1 he with rfl | rfl | rfl | rfl <;> simp [perp, dirs4]
    have hc : inW W H (pad v e) := by
      have hx : (S1 (sideA v e) = true) ∨ S1 (sideB v e) = true := by
        cases hA : S1 (sideA v e) <;> cases hB : S1 (sideB v e)
        · rw [hA, hB] at hne; exact absurd rfl hne
        · exact .inr rfl
        · exact .inl rfl
        · exact .inl rfl
      rcases hx with hx | hx
      · have hq := (m1 _).1 ((s1 _).1 hx).1
        have := odd_in hW2 hH2 hq.1 hq.2 (neg_dir hpd)
        rwa [show pad (sideA v e) (neg (perp e)) = pad v e from pad_back.1] at this
      · have hq := (m1 _).1 ((s1 _).1 hx).1
        have := odd_in hW2 hH2 hq.1 hq.2 hpd
        rwa [show pad (sideB v e) (perp e) = pad v e from pad_back.2] at this
    obtain ⟨u, hu | hu, e1⟩ := owner (pad v e) hc (by rw [par_pad he]; omega)
    · exact ⟨u, hu, e1⟩
    · exfalso
      have hs := same1 u hu
      rcases cross (r := 1) (.inr rfl) (par1 u hu) (by simpa using hv0.2.1) (kd u (in1 u hu)) he e1 with ⟨q1, q2⟩ | ⟨q1, q2⟩
      · exact hne (by rw [q1, q2]; exact hs)
      · exact hne (by rw [q1, q2]; exact hs.symm)
  obtain ⟨M0, hM0⟩ := rk_bound (rkg D isO) (nodes0 w h)
  obtain ⟨M1, hM1⟩ := rk_bound (rkg D (out1 W H)) (nodes1 w h)
  have peel1 := peelV (fun v => v ∈ nodes1 w h) (Tg D (out1 W H)) D (rkg D (out1 W H)) M1 1 par1 (fun v hv => kd v (in1 v hv)) (fun u _ _ hT => Tg_pre hT) (fun u hu hT _ => (rkg_next hT (fun o => o.2 ((m1 u).1 hu).1)).2) (fun u hu _ => hM1 u hu) S0 own1
  have peel0 := peelV (fun v => v ∈ nodes0 w h) (Tg D isO) D (rkg D isO) M0 0 par0 (fun v hv => kd v (in0 v hv)) (fun u _ _ hT => Tg_pre hT) (fun u hu hT _ => (rkg_next hT ((m0 u).1 hu).2.2).2) (fun u hu _ => hM0 u hu) S1 own0
  -- a face with an edge between unlike posts never comes outside
  have faceT : ∀ p e, p.1 % 2 = 0 ∧ p.2 % 2 = 0 → e ∈ dirs4 → S0 p ≠ S0 (pad (pad p e) e) → ∀ u, u ∈ nodes1 w h → pad u (D u) = pad p e → ¬ Tg D (out1 W H) u := fun p e hp he hne u hu e1 hT => by
    have hs := peel1 u hu hT
    rcases cross (r := 0) (.inl rfl) hp (by simpa using par1 u hu) he (kd u (in1 u hu)) e1.symm with ⟨q1, q2⟩ | ⟨q1, q2⟩
    · rw [q1, q2] at hs; exact hne hs
    · rw [q1, q2] at hs; exact hne hs.symm
  have edge0 : ∀ p e, p.1 % 2 = 0 ∧ p.2 % 2 = 0 → e ∈ dirs4 → inW W H p → inW W H (pad (pad p e) e) → S0 p ≠ S0 (pad (pad p e) e) → ∃ u, u ∈ nodes1 w h ∧ pad u (D u) = pad p e ∧ ¬ Tg D (out1 W H) u := fun p e hp he h1 h2 hne => by
    obtain ⟨u, hu | hu, e1⟩ := owner (pad p e) (mid_in h1 he h2) (by rw [par_pad he]; omega)
    · exfalso
      have hs := same0 u hu
      rcases two_ends (par0 u hu) hp (kd u (in0 u hu)) he e1 with ⟨q1, q2⟩ | ⟨q1, q2, q3⟩
      · unfold nxt at hs; rw [q2, q1] at hs; exact hne hs
      · unfold nxt at hs; rw [← q3, q1] at hs; exact hne hs.symm
    · exact ⟨u, hu, e1, faceT p e hp he hne u hu e1⟩
  have rim : ∀ p e, p.1 % 2 = 0 ∧ p.2 % 2 = 0 → e ∈ dirs4 → inW W H p → inW W H (pad (pad p e) e) → (¬ inW W H (sideA p e) ∨ ¬ inW W H (sideB p e)) → S0 p = S0 (pad (pad p e) e) := fun p e hp he h1 h2 ho => by
    refine Decidable.byContradiction fun hne => ?_
    obtain ⟨u, hu, e1, hT⟩ := edge0 p e hp he h1 h2 hne
    have hu1 := (m1 u).1 hu
    have hn : ¬ inW W H (nxt D u) := by
      rcases cross (r := 1) (.inr rfl) (par1 u hu) (by simpa using hp) (kd u (in1 u hu)) he e1 with ⟨q1, q2⟩ | ⟨q1, q2⟩
      · rw [q1, q2] at ho
        rcases ho with ho | ho
        · exact absurd hu1.1 ho
        · exact ho
      · rw [q1, q2] at ho
        rcases ho with ho | ho
        · exact ho
        · exact absurd hu1.1 ho
    exact hT ⟨1, par_two (kd u (in1 u hu)) hu1.2, hn⟩
  have d1 : ((1, 0) : Int × Int) ∈ dirs4 := by decide
  have d2 : ((0, 1) : Int × Int) ∈ dirs4 := by decide
  have d3 : ((-1, 0) : Int × Int) ∈ dirs4 := by decide
  have d4 : ((0, -1) : Int × Int) ∈ dirs4 := by decide
  have line1 : ∀ y : Int, (y = 0 ∨ y = H - 1) → S0 (0, y) = false → ∀ i : Nat, i < w → S0 (2 * (i : Int), y) = false := by
    intro y hy hz i
    induction i with
    | zero => intro _; exact hz
    | succ i ih =>
      intro hi
      have := rim (2 * (i : Int), y) (1, 0) ⟨by simp, by simp only; omega⟩ d1 (by simp only [inW]; omega) (by simp only [inW, pad]; omega) (by
        rcases hy with rfl | rfl
        · right; simp [inW, sideB, pad, perp, neg]
        · left; simp only [inW, sideA, pad, perp]; omega)
      rw [ih (by omega)] at this
      rw [this]
      congr 1
      simp [pad]; omega
  have line2 : ∀ x : Int, (x = 0 ∨ x = W - 1) → S0 (x, 0) = false → ∀ j : Nat, j < h → S0 (x, 2 * (j : Int)) = false := by
    intro x hx hz j
    induction j with
    | zero => intro _; exact hz
    | succ j ih =>
      intro hj
      have := rim (x, 2 * (j : Int)) (0, 1) ⟨by simp only; omega, by simp⟩ d2 (by simp only [inW]; omega) (by simp only [inW, pad]; omega) (by
        rcases hx with rfl | rfl
        · right; simp [inW, sideB, pad, perp, neg]
        · left; simp only [inW, sideA, pad, perp]; omega)
      rw [ih (by omega)] at this
      rw [this]
      congr 1
      simp [pad]; omega
  have top := line1 0 (.inl rfl) z0
  have left := line2 0 (.inl rfl) z0
  have bot := line1 (H - 1) (.inr rfl) (by have := left (h - 1) (by omega); rwa [show 2 * ((h - 1 : Nat) : Int) = H - 1 by omega] at this)
  have right := line2 (W - 1) (.inr rfl) (by have := top (w - 1) (by omega); rwa [show 2 * ((w - 1 : Nat) : Int) = W - 1 by omega] at this)
  have inner : ∀ x y, S0 (x, y) = true → (2 ≤ x ∧ x + 2 ≤ W - 1) ∧ 2 ≤ y ∧ y + 2 ≤ H - 1 := fun x y hs => by
    obtain ⟨⟨⟨b1, b2⟩, b3, b4⟩, ⟨b5, b6⟩, _⟩ := (m0 _).1 ((s0 _).1 hs).1
    simp only at b1 b2 b3 b4 b5 b6
    have c1 : x ≠ 0 := fun e => by have := left (y / 2).toNat (by omega); rw [show 2 * (((y / 2).toNat : Nat) : Int) = y by omega, ← e, hs] at this; simp at this
    have c2 : x ≠ W - 1 := fun e => by have := right (y / 2).toNat (by omega); rw [show 2 * (((y / 2).toNat : Nat) : Int) = y by omega, ← e, hs] at this; simp at this
    have c3 : y ≠ 0 := fun e => by have := top (x / 2).toNat (by omega); rw [show 2 * (((x / 2).toNat : Nat) : Int) = x by omega, ← e, hs] at this; simp at this
    have c4 : y ≠ H - 1 := fun e => by have := bot (x / 2).toNat (by omega); rw [show 2 * (((x / 2).toNat : Nat) : Int) = x by omega, ← e, hs] at this; simp at this
    omega
  have edge1 : ∀ g e, S1 g = true → e ∈ dirs4 → S1 (pad (pad g e) e) = false → S0 (sideA g e) = true ∧ S0 (sideB g e) = true := fun g e hs he hn => by
    have hgm := ((s1 _).1 hs).1
    have hg1 := (m1 g).1 hgm
    obtain ⟨u, hu | hu, e1⟩ := owner (pad g e) (odd_in hW2 hH2 hg1.1 hg1.2 he) (by rw [par_pad he]; omega)
    · have hT : ¬ Tg D isO u := fun hT => by
        have hq := peel0 u hu hT
        rcases cross (r := 1) (.inr rfl) hg1.2 (by simpa using par0 u hu) he (kd u (in0 u hu)) e1.symm with ⟨q1, q2⟩ | ⟨q1, q2⟩
        · rw [q1, q2, hs, hn] at hq; simp at hq
        · rw [q1, q2, hs, hn] at hq; simp at hq
      have hu9 : S0 u = true := (s0 u).2 ⟨hu, hT⟩
      have hn9 : S0 (nxt D u) = true := by rw [← same0 u hu]; exact hu9
      rcases cross (r := 0) (.inl rfl) (par0 u hu) (by simpa using hg1.2) (kd u (in0 u hu)) he e1 with ⟨q1, q2⟩ | ⟨q1, q2⟩
      · rw [q1, q2]; exact ⟨hu9, hn9⟩
      · rw [q1, q2]; exact ⟨hn9, hu9⟩
    · exfalso
      have hq := same1 u hu
      rcases two_ends (par1 u hu) hg1.2 (kd u (in1 u hu)) he e1 with ⟨q1, q2⟩ | ⟨q1, q2, q3⟩
      · unfold nxt at hq; rw [q2, q1, hs, hn] at hq; simp at hq
      · unfold nxt at hq; rw [← q3, q1, hs, hn] at hq; simp at hq
  have mid : ∀ g, S1 g = true → g = (3, 3) := fun g hs => by
    obtain ⟨x, y⟩ := g
    obtain ⟨⟨⟨b1, b2⟩, b3, b4⟩, b5, b6⟩ := (m1 _).1 ((s1 _).1 hs).1
    simp only at b1 b2 b3 b4 b5 b6
    have no1 : ∀ x y, ¬ inW W H (x, y) → S1 (x, y) = false := fun x y hn => by
      cases hz : S1 (x, y)
      · rfl
      · exact absurd ((m1 _).1 ((s1 _).1 hz).1).1 hn
    have c1 : x ≠ 1 := fun e => by
      have := (edge1 (x, y) (-1, 0) hs d3 (no1 _ _ (by simp only [inW, pad]; omega))).1
      have := inner _ _ this; simp only [pad, perp] at this; omega
    have c2 : x ≠ 5 := fun e => by
      have := (edge1 (x, y) (1, 0) hs d1 (no1 _ _ (by simp only [inW, pad]; omega))).1
      have := inner _ _ this; simp only [pad, perp] at this; omega
    have c3 : y ≠ 1 := fun e => by
      have := (edge1 (x, y) (0, -1) hs d4 (no1 _ _ (by simp only [inW, pad]; omega))).1
      have := inner _ _ this; simp only [pad, perp] at this; omega
    have c4 : y ≠ 5 := fun e => by
      have := (edge1 (x, y) (0, 1) hs d2 (no1 _ _ (by simp only [inW, pad]; omega))).1
      have := inner _ _ this; simp only [pad, perp] at this; omega
    simp only [Prod.mk.injEq]; omega
  have U0 : ∀ g, S1 g = false := fun g => by
    cases hs : S1 g
    · rfl
    · exfalso
      have hgm := ((s1 _).1 hs).1
      have h1 := mid g hs
      have h2 := mid (nxt D g) (by rw [← same1 g hgm]; exact hs)
      have hd := kd g (in1 g hgm)
      rw [h1] at h2 hd
      rcases (dirs4_iff _).1 hd with e | e | e | e <;> rw [nxt, e] at h2 <;> simp [pad] at h2
  have C0 : ∀ p, S0 p = false := fun p => by
    cases hs : S0 p
    · rfl
    · exfalso
      have key : ∃ x y, S0 (x, y) = true ∧ S0 (x - 2, y) = false := by
        obtain ⟨x, y⟩ := p
        have hi := inner _ _ hs
        have hp := (m0 _).1 ((s0 _).1 hs).1
        simp only at hp
        cases h2 : S0 (x - 2, y)
        · exact ⟨x, y, hs, h2⟩
        · refine ⟨x - 2, y, h2, ?_⟩
          cases h3 : S0 (x - 2 - 2, y)
          · rfl
          · have := inner _ _ h3; omega
      obtain ⟨x, y, h1, h2⟩ := key
      have hm := (m0 _).1 ((s0 _).1 h1).1
      have hi := inner _ _ h1
      have e9 : pad (pad (x, y) (-1, 0)) (-1, 0) = (x - 2, y) := by simp [pad]; omega
      obtain ⟨u, hu, _, hT⟩ := edge0 (x, y) (-1, 0) hm.2.1 d3 hm.1 (by rw [e9]; simp only [inW]; omega) (by rw [e9, h1, h2]; simp)
      have := U0 u
      rw [(s1 u).2 ⟨hu, hT⟩] at this
      simp at this
  refine ⟨fun v hv => ?_, fun v hv => ?_⟩
  · refine Decidable.byContradiction fun hT => ?_
    have := C0 v
    rw [(s0 v).2 ⟨hv, hT⟩] at this
    simp at this
  · refine Decidable.byContradiction fun hT => ?_
    have := U0 v
    rw [(s1 v).2 ⟨hv, hT⟩] at this
    simp at this
end Go.Proofs.Ytehnbalbpfmijaa

namespace Go.Proofs.Ytehnbalbpfmijaa
open Go.RowKit
set_option linter.unusedVariables false

theorem lkA_over (l : Lk) : lkA l = overL (lkC l).1 (lkC l).2 (2 * l.1) (2 * l.2.1) ∧ lkB l = overL (lkC l).1 (lkC l).2 (if l.2.2 then 2 * l.1 else 2 * l.1 + 2) (if l.2.2 then 2 * l.2.1 + 2 else 2 * l.2.1) := by
  obtain ⟨x, y, d⟩ := l
  cases d <;> simp [lkA, lkB, lkC, overL] <;> omega
theorem cellP_inj {w i j : Nat} (h : cellP w i = cellP w j) : i = j := by
  unfold cellP at h
  simp only [Prod.mk.injEq] at h
  have h1 : i % w = j % w := by omega
  have h2 : i / w = j / w := by omega
  rw [← Nat.mod_add_div i w, ← Nat.mod_add_div j w, h1, h2]
section
variable {w h : Nat} {L : List Lk} {D : Int × Int → Int × Int}
/-- A link is shown where a post owns its cell. -/
theorem tot_own (hg : gridB w h = true) (ht : Til (setZ (floorZ w h)) L) (k : Ways w h (nodes0 w h ++ nodes1 w h) D) (hL : ∀ d, d ∈ L ↔ ∃ v, v ∈ nodes0 w h ++ nodes1 w h ∧ d = wayD D v) {l : Lk} (hl : l ∈ linksZ w h) : inT L l = true ↔ ∃ u, u ∈ nodes0 w h ∧ pad u (D u) = lkC l := by
  have hf := floor_ok hg
  have hc := (hf.me (lkC l)).1 (List.mem_map.2 ⟨l, hl, rfl⟩)
  obtain ⟨v, hv, e⟩ := k.all _ hc.1 hc.2
  have hd := (hL _).2 ⟨v, hv, rfl⟩
  have hb := lkI_cell hg hl
  have hdm := ht.so.2 _ hd
  have ho : ovr (wayD D v) (lkI l) = true := by
    refine (ovr_cells hdm hb.2.1).2 ?_
    exact over_cells (v := v) (e := D v) (k.dr v hv) (.inr e.symm) (wayD D v) rfl
  rw [inT_ev hg ht hl hd ho]
  have hev : evD (wayD D v) = true ↔ v ∈ nodes0 w h := by
    have hp : evD (wayD D v) = true ↔ v.1 % 2 = 0 ∧ v.2 % 2 = 0 := by
      have hdr := k.dr v hv
      have hm := ((k.mv v).1 hv).2.1
      unfold wayD
      rw [over_pad hdr]
      obtain ⟨x, y⟩ := v
      simp only at hm ⊢
      unfold evD evC
      rcases (dirs4_iff _).1 hdr with e | e | e | e <;> rw [e] <;> simp [sx, sy] <;> omega
    rw [hp]
    constructor
    · intro q
      rcases List.mem_append.1 hv with z | z
      · exact z
      · have := ((hf.m1 v).1 z).2; omega
    · intro q; exact ((hf.m0 v).1 q).2.1
  rw [hev]
  constructor
  · intro q; exact ⟨v, q, e⟩
  · rintro ⟨u, hu, e2⟩
    rw [← k.inj u (List.mem_append.2 (.inl hu)) v hv (e2.trans e.symm)]; exact hu
theorem tot_mem {l : Lk} (hg : gridB w h = true) (ht : Til (setZ (floorZ w h)) L) (k : Ways w h (nodes0 w h ++ nodes1 w h) D) (hL : ∀ d, d ∈ L ↔ ∃ v, v ∈ nodes0 w h ++ nodes1 w h ∧ d = wayD D v) : l ∈ toT w h L ↔ l ∈ linksZ w h ∧ ∃ u, u ∈ nodes0 w h ∧ pad u (D u) = lkC l := by
  unfold toT
  rw [List.mem_filter]
  constructor
  · rintro ⟨h1, h2⟩; exact ⟨h1, (tot_own hg ht k hL h1).1 h2⟩
  · rintro ⟨h1, h2⟩; exact ⟨h1, (tot_own hg ht k hL h1).2 h2⟩
theorem tot_cells (hg : gridB w h = true) (ht : Til (setZ (floorZ w h)) L) (k : Ways w h (nodes0 w h ++ nodes1 w h) D) (hL : ∀ d, d ∈ L ↔ ∃ v, v ∈ nodes0 w h ++ nodes1 w h ∧ d = wayD D v) {c : Int × Int} : c ∈ (toT w h L).map lkC ↔ ∃ u, u ∈ nodes0 w h ∧ pad u (D u) = c := by
  have hf := floor_ok hg
  rw [List.mem_map]
  constructor
  · rintro ⟨l, hl, rfl⟩; exact ((tot_mem hg ht k hL).1 hl).2
  · rintro ⟨u, hu, rfl⟩
    obtain ⟨l, hl, e⟩ := List.mem_map.1 ((hf.me _).2 (k.ed u (List.mem_append.2 (.inl hu))))
    exact ⟨l, (tot_mem hg ht k hL).2 ⟨hl, u, hu, e.symm⟩, e⟩
theorem tot_nodup (hg : gridB w h = true) : ((toT w h L).map lkC).Nodup := by
  have hf := floor_ok hg
  exact hf.ne.sublist (List.Sublist.map lkC List.filter_sublist)
/-- The shown links are a tree. -/
theorem tot_tree (hg : gridB w h = true) (ht : Til (setZ (floorZ w h)) L) (k : Ways w h (nodes0 w h ++ nodes1 w h) D) (hL : ∀ d, d ∈ L ↔ ∃ v, v ∈ nodes0 w h ++ nodes1 w h ∧ d = wayD D v) : treeB w h (toT w h L) = true := by
  have hf := floor_ok hg
  have hb := (gridB_iff _ _).1 hg
  have hw : 0 < w * h := Nat.mul_pos (by omega) (by omega)
  have hlen : (toT w h L).length = w * h - 1 := by
    have hn := map_nodup (f := fun v => pad v (D v)) hf.n0 fun u hu v hv e => k.inj u (List.mem_append.2 (.inl hu)) v (List.mem_append.2 (.inl hv)) e
    have hp := ((List.perm_ext_iff_of_nodup (tot_nodup (L := L) hg) hn).2 fun c => by rw [tot_cells hg ht k hL, List.mem_map]).length_eq
    rw [List.length_map, List.length_map] at hp
    rw [hp]; simp [nodes0]
  have hin : ∀ l ∈ toT w h L, l ∈ linksZ w h := fun l hl => (List.mem_filter.1 hl).1
  have hcon : ∀ i, i < w * h → Con ((toT w h L).map (lkN w)) 0 i := by
    have key : ∀ n i, i < w * h → comes D isO n (cellP w i) → Con ((toT w h L).map (lkN w)) 0 i := by
      intro n
      induction n with
      | zero =>
        intro i hi hc
        have : cellP w i = cellP w 0 := by rw [show cellP w i = (0, 0) from hc]; simp [cellP]
        rw [cellP_inj this]
        exact Con.refl _
      | succ n ih =>
        intro i hi hc
        by_cases h0 : i = 0
        · rw [h0]; exact Con.refl _
        · have hm : cellP w i ∈ nodes0 w h := List.mem_map.2 ⟨i - 1, by simp; omega, by rw [Nat.sub_add_cancel (by omega)]⟩
          obtain ⟨l, hl, e⟩ := List.mem_map.1 ((tot_cells hg ht k hL).2 ⟨_, hm, rfl⟩)
          obtain ⟨⟨c1, c2⟩, δ, hδ, c3, c4⟩ := hf.lk l (hin l hl)
          have hed : Con ((toT w h L).map (lkN w)) (lkN w l).1 (lkN w l).2 := Con.edge (List.mem_map.2 ⟨l, hl, rfl⟩)
          have hpar := ((hf.m0 _).1 hm).2.1
          have hdr := k.dr _ (List.mem_append.2 (.inl hm))
          have hpA : (cellP w (lkN w l).1).1 % 2 = 0 ∧ (cellP w (lkN w l).1).2 % 2 = 0 := by simp [cellP]
          have hc9 : comes D isO n (nxt D (cellP w i)) := hc
          rcases two_ends hpar hpA hdr hδ (by rw [← e, c3]) with ⟨q1, q2⟩ | ⟨q1, q2, q3⟩
          · have e1 := cellP_inj q1
            have e2 : nxt D (cellP w i) = cellP w (lkN w l).2 := by unfold nxt; rw [← e, q2, c4]
            rw [e2] at hc9
            rw [e1]
            exact (ih _ c2 hc9).trans hed.symm
          · have e1 : cellP w i = cellP w (lkN w l).2 := by rw [q1, c3, c4]
            have e2 : nxt D (cellP w i) = cellP w (lkN w l).1 := q3.symm
            rw [e2] at hc9
            rw [cellP_inj e1]
            exact (ih _ c1 hc9).trans hed
    intro i hi
    by_cases h0 : i = 0
    · rw [h0]; exact Con.refl _
    · have hm : cellP w i ∈ nodes0 w h := List.mem_map.2 ⟨i - 1, by simp; omega, by rw [Nat.sub_add_cancel (by omega)]⟩
      obtain ⟨n, hn⟩ := (all_come hg k).1 _ hm
      exact key n i hi hn
  have hok := (tree_iff (n := w * h) ((toT w h L).map (lkN w)) hw (by rw [List.length_map]; exact hlen) (ends_lt hg hin)).2 hcon
  have hall : ((toT w h L).all fun l => (linksZ w h).contains l) = true := by rw [List.all_eq_true]; intro l hl; simpa using hin l hl
  unfold treeB
  simp only [Int.toNat_natCast]
  rw [hg, hok, hall, decide_eq_true (show ((toT w h L).length : Int) = (w : Int) * (h : Int) - 1 by rw [hlen, ← Int.natCast_mul]; omega)]
  rfl
/-- The tiling is that of the tree. -/
theorem tot_til (hg : gridB w h = true) (ht : Til (setZ (floorZ w h)) L) (k : Ways w h (nodes0 w h ++ nodes1 w h) D) (hL : ∀ d, d ∈ L ↔ ∃ v, v ∈ nodes0 w h ++ nodes1 w h ∧ d = wayD D v) : TilP w h (toT w h L) L := by
  have hf := floor_ok hg
  obtain ⟨⟨a1, a2⟩, a3, a4⟩ := (gridB_iff _ _).1 hg
  obtain ⟨T0, T1⟩ := all_come hg k
  have in0 : ∀ v, v ∈ nodes0 w h → v ∈ nodes0 w h ++ nodes1 w h := fun v hv => List.mem_append.2 (.inl hv)
  have in1 : ∀ v, v ∈ nodes1 w h → v ∈ nodes0 w h ++ nodes1 w h := fun v hv => List.mem_append.2 (.inr hv)
  refine ⟨fun v => v ∈ nodes0 w h, D, rkg D isO, fun v => v ∈ nodes1 w h, D, rkg D (out1 (2 * w - 1) (2 * h - 1)), (nodes0 w h ++ nodes1 w h).map (wayD D), ⟨fun v hv => ?_, fun v hv => k.dr v (in0 v hv), fun v hv => ?_, fun v hv => ?_, fun v hv e he hi hh => ?_⟩, ⟨fun v hv => ?_, fun v hv => k.dr v (in1 v hv), fun v hv => ?_, fun v hv => ?_, fun v hv e he hi hh => ?_⟩, fun x => ?_, ?_⟩
  · have := (hf.m0 v).1 hv; exact ⟨this.1, this.2.1, this.2.2⟩
  · exact (tot_cells hg ht k hL).2 ⟨v, hv, rfl⟩
  · have hv0 := (hf.m0 v).1 hv
    have hn := even_next (by omega) (by omega) hv0.1 hv0.2.1 (k.dr v (in0 v hv)) (k.ed v (in0 v hv)).1
    have hp := par_two (k.dr v (in0 v hv)) hv0.2.1
    by_cases hz : isO (pad (pad v (D v)) (D v))
    · exact .inl hz
    · exact .inr ⟨(hf.m0 _).2 ⟨hn, hp, hz⟩, (rkg_next (T0 v hv) hv0.2.2).2⟩
  · have hpv : v.1 % 2 = 0 ∧ v.2 % 2 = 0 := by
      rcases hv with hv | hv
      · unfold isO at hv; subst hv; simp
      · exact ((hf.m0 v).1 hv).2.1
    by_cases hz : isO (pad (pad v e) e)
    · exact .inl hz
    · exact .inr ((hf.m0 _).2 ⟨hi, par_two he hpv, hz⟩)
  · have := (hf.m1 v).1 hv; exact ⟨this.1, this.2, fun o => o.2 this.1⟩
  · refine ⟨(k.ed v (in1 v hv)).1, fun q => ?_⟩
    obtain ⟨u, hu, e⟩ := (tot_cells hg ht k hL).1 q
    have := k.inj u (in0 u hu) v (in1 v hv) e
    subst this
    have h1 := ((hf.m0 u).1 hu).2.1.1
    have h2 := ((hf.m1 u).1 hv).2.1
    omega
  · have hv1 := (hf.m1 v).1 hv
    have hp := par_two (k.dr v (in1 v hv)) hv1.2
    by_cases hz : inW (2 * w - 1) (2 * h - 1) (pad (pad v (D v)) (D v))
    · exact .inr ⟨(hf.m1 _).2 ⟨hz, hp⟩, (rkg_next (T1 v hv) (fun o => o.2 hv1.1)).2⟩
    · exact .inl ⟨hp, hz⟩
  · have hpv : v.1 % 2 = 1 ∧ v.2 % 2 = 1 := by
      rcases hv with hv | hv
      · exact hv.1
      · exact ((hf.m1 v).1 hv).2
    exact .inr ((hf.m1 _).2 ⟨hi, par_two he hpv⟩)
  · rw [List.mem_map]
    constructor
    · rintro ⟨v, hv, rfl⟩
      rcases List.mem_append.1 hv with hv | hv
      · exact .inl ⟨v, hv, rfl⟩
      · exact .inr ⟨v, hv, rfl⟩
    · rintro (⟨v, hv, rfl⟩ | ⟨v, hv, rfl⟩)
      · exact ⟨v, in0 v hv, rfl⟩
      · exact ⟨v, in1 v hv, rfl⟩
  · have s1 := (sort_same ((nodes0 w h ++ nodes1 w h).map (wayD D)) ((nodes0 w h ++ nodes1 w h).map (wayD D)).length).2
    refine ht.so.eq s1 ((List.perm_ext_iff_of_nodup ht.so.nodup s1.nodup).2 fun x => ?_)
    rw [sortI_mem _ (Nat.le_refl _), List.take_length, List.mem_map]
    constructor
    · intro hx
      obtain ⟨v, hv, e⟩ := (hL x).1 hx
      exact ⟨⟨v, hv, e.symm⟩, ht.so.2 x hx⟩
    · rintro ⟨⟨v, hv, e⟩, _⟩
      exact (hL x).2 ⟨v, hv, e.symm⟩
theorem til_tot (hg : gridB w h = true) (ht : Til (setZ (floorZ w h)) L) : treeB w h (toT w h L) = true ∧ tilZ w h (toT w h L) = L ∧ totB w h L = true := by
  obtain ⟨D, k, hL⟩ := til_ways hg ht
  have h1 := tot_tree hg ht k hL
  have h2 := (tilZ_eq h1 (tot_til hg ht k hL)).symm
  refine ⟨h1, h2, ?_⟩
  unfold totB
  rw [hg, h1, tilQ_nat h1, h2]
  simp
/-- The tree of a tree's tiling, where the links stand in order. -/
theorem tree_back {ls : List Lk} (ht : treeB w h ls = true) (hs : ls.Sublist (linksZ w h)) : toT w h (tilZ w h ls) = ls := by
  obtain ⟨hg, hok⟩ := tree_ok ht
  have hf := floor_ok hg
  have hT := tilZ_til ht
  obtain ⟨D, k, hL⟩ := til_ways hg hT
  have ht2 := (tree_ok (til_tot hg hT).1).2
  have hsub : ∀ l ∈ ls, l ∈ toT w h (tilZ w h ls) := fun l hl => by
    obtain ⟨R0, d0, k0, R1, d1, k1, X, b0, b1, hX, e⟩ := tilZ_p ht
    have hb := (gridB_iff _ _).1 hg
    have hw : 0 < w * h := Nat.mul_pos (by omega) (by omega)
    obtain ⟨u, hu, e1⟩ := own_edge hf hok b0 (b0.full0 hf hw hok) (c := lkC l) (List.mem_map.2 ⟨l, hl, rfl⟩)
    have hu0 := (node0_iff hf hw hok b0 u).2 hu
    have hmv := (k.mv u).2 ⟨((hf.m0 u).1 hu).1, by have := ((hf.m0 u).1 hu).2.1; omega, ((hf.m0 u).1 hu).2.2⟩
    have hdir := b0.dir u hu0
    have hway : wayD d0 u ∈ tilZ w h ls := by
      rw [e]
      rw [sortI_mem _ (Nat.le_refl _), List.take_length]
      refine ⟨(hX _).2 (.inl ⟨u, hu0, rfl⟩), ?_⟩
      unfold wayD
      have hin := (hf.me (pad u (d0 u))).1 (by rw [e1]; exact List.mem_map.2 ⟨l, hok.sb l hl, rfl⟩)
      have hnx := way_next hdir ((hf.m0 u).1 hu).1 (by omega) (by omega) hin.1
      rw [over_comm]
      exact over_dom hnx
    have hDd : D u = d0 u := over_inj (k.dr u hmv) hdir (dom_one hg hT (k.dr u hmv) hdir ((hL _).2 ⟨u, hmv, rfl⟩) hway (c := u) (.inl rfl) (.inl rfl))
    exact (tot_mem hg hT k hL).2 ⟨hok.sb l hl, u, hu, by rw [hDd]; exact e1⟩
  have hnl : (linksZ w h).Nodup := by
    have := hf.ne
    unfold edgesZ at this
    rw [List.Nodup, List.pairwise_map] at this
    exact this.imp fun hab e => hab (by rw [e])
  have hnd : ls.Nodup := hnl.sublist hs
  have hback : ∀ l ∈ toT w h (tilZ w h ls), l ∈ ls := fun l hl => all_hit hnd hsub (by rw [ht2.ln, hok.ln]; exact Nat.le_refl _) hl
  have e1 : ls = (linksZ w h).filter fun l => decide (l ∈ ls) := by
    have : ∀ {A B : List Lk}, A.Sublist B → B.Nodup → A = B.filter fun l => decide (l ∈ A) := fun {A B} hab => by
      induction hab with
      | slnil => intro _; rfl
      | @cons A B b hab ih =>
        intro hn
        have hn2 := List.nodup_cons.1 hn
        rw [List.filter_cons_of_neg (by simpa using fun q => hn2.1 (hab.subset q))]
        exact ih hn2.2
      | @cons_cons A B b hab ih =>
        intro hn
        have hn2 := List.nodup_cons.1 hn
        rw [List.filter_cons_of_pos (by simp)]
        congr 1
        refine (ih hn2.2).trans (List.filter_congr fun x hx => ?_)
        have : x ≠ b := fun q => hn2.1 (by rw [← q]; exact hx)
        simp [this]
    exact this hs hnl
  refine Eq.trans ?_ e1.symm
  unfold toT
  refine List.filter_congr fun x hx => ?_
  rw [Bool.eq_iff_iff, decide_eq_true_iff]
  exact ⟨fun q => hback x (List.mem_filter.2 ⟨hx, q⟩), fun q => (List.mem_filter.1 (hsub x q)).2⟩
end
end Go.Proofs.Ytehnbalbpfmijaa

namespace Go.Proofs.Ytehnbalbpfmijaa
open Go.RowKit
set_option linter.unusedVariables false

def stepF (h b r : Bool) (x : Nat) : List Int → Nat → List Int → List Int
  | [], _, nx => nx
  | n :: zs, k, nx => stepF h b r x zs (k + 1) (inZ h b r x n k nx)
theorem stepF_eq (h b r : Bool) (x : Nat) (zs : List Int) : ∀ (l : List Int) (k : Nat), zs.drop k = l → stepF h b r x l k (stepTo h b r x zs k) = stepTo h b r x zs (k + l.length)
  | [], k, _ => rfl
  | n :: l, k, hd => by
    have hk : k < zs.length := by
      refine Nat.lt_of_not_le fun hle => ?_
      rw [List.drop_of_length_le hle] at hd; simp at hd
    rw [List.drop_eq_getElem_cons hk] at hd
    injection hd with h1 h2
    have he : el zs k = n := by rw [el, List.getD_eq_getElem?_getD, List.getElem?_eq_getElem hk]; exact h1
    rw [stepF]
    have ih := stepF_eq h b r x zs l (k + 1) h2
    rw [stepTo, he] at ih
    rw [ih, List.length_cons, show k + 1 + l.length = k + (l.length + 1) by omega]
def profF (T : Nat) : Nat → List Int
  | 0 => zeros.set 0 1
  | i + 1 => stepF (hasC T (i % 8) (i / 8)) (hasC T (i % 8) (i / 8 + 1)) (hasC T (i % 8 + 1) (i / 8)) (i % 8) (profF T i) 0 zeros
theorem profF_eq (T : Nat) : ∀ i, profF T i = profTo T i
  | 0 => rfl
  | i + 1 => by
    rw [profF, profTo, profF_eq T i]
    have h := stepF_eq (hasC T (i % 8) (i / 8)) (hasC T (i % 8) (i / 8 + 1)) (hasC T (i % 8 + 1) (i / 8)) (i % 8) (profTo T i) (profTo T i) 0 rfl
    rw [Nat.zero_add, profTo_len] at h
    exact h
/-- The count, so reckoned. -/
def profK (T : Nat) : Int := (profF T 64).headD 0
theorem profK_eq (T : Nat) : profZ T = profK T := by
  unfold profZ profK
  rw [profF_eq]
  unfold el
  cases profTo T 64 <;> rfl
end Go.Proofs.Ytehnbalbpfmijaa

namespace Go.Proofs.Ytehnbalbpfmijaa
open Go.RowKit
set_option linter.unusedVariables false

def fnB (a b : Nat) : Bool := decide (profK (setZ (floorZ a b)) = countTreesZ a b) && decide (((cntB (setZ (floorZ a b)) 64 : Nat) : Int) = (2 * (a : Int) - 1) * (2 * (b : Int) - 1) - 1)
set_option maxRecDepth 100000
theorem fnum_11 : fnB 1 1 = true := by decide +kernel
theorem fnum_12 : fnB 1 2 = true := by decide +kernel
theorem fnum_13 : fnB 1 3 = true := by decide +kernel
theorem fnum_14 : fnB 1 4 = true := by decide +kernel
theorem fnum_21 : fnB 2 1 = true := by decide +kernel
theorem fnum_22 : fnB 2 2 = true := by decide +kernel
theorem fnum_23 : fnB 2 3 = true := by decide +kernel
theorem fnum_24 : fnB 2 4 = true := by decide +kernel
theorem fnum_31 : fnB 3 1 = true := by decide +kernel
theorem fnum_32 : fnB 3 2 = true := by decide +kernel
theorem fnum_33 : fnB 3 3 = true := by decide +kernel
theorem fnum_34 : fnB 3 4 = true := by decide +kernel
theorem fnum_41 : fnB 4 1 = true := by decide +kernel
theorem fnum_42 : fnB 4 2 = true := by decide +kernel
theorem fnum_43 : fnB 4 3 = true := by decide +kernel
theorem fnum_44 : fnB 4 4 = true := by decide +kernel
theorem floor_num {a b : Nat} (hg : gridB a b = true) : floorC a b = countTreesZ a b ∧ ((cntB (setZ (floorZ a b)) 64 : Nat) : Int) = (2 * (a : Int) - 1) * (2 * (b : Int) - 1) - 1 := by
  obtain ⟨⟨a1, a2⟩, a3, a4⟩ := (gridB_iff _ _).1 hg
  have ht : fnB a b = true := by
    have ha : a = 1 ∨ a = 2 ∨ a = 3 ∨ a = 4 := by omega
    have hb : b = 1 ∨ b = 2 ∨ b = 3 ∨ b = 4 := by omega
    rcases ha with rfl | rfl | rfl | rfl <;> rcases hb with rfl | rfl | rfl | rfl
    · exact fnum_11
    · exact fnum_12
    · exact fnum_13
    · exact fnum_14
    · exact fnum_21
    · exact fnum_22
    · exact fnum_23
    · exact fnum_24
    · exact fnum_31
    · exact fnum_32
    · exact fnum_33
    · exact fnum_34
    · exact fnum_41
    · exact fnum_42
    · exact fnum_43
    · exact fnum_44
  unfold fnB at ht
  rw [Bool.and_eq_true, decide_eq_true_eq, decide_eq_true_eq] at ht
  refine ⟨?_, ht.2⟩
  rw [← ht.1, floorC, hg, if_pos rfl, profK_eq]
end Go.Proofs.Ytehnbalbpfmijaa

namespace Go.Proofs.Ytehnbalbpfmijaa
open Go.RowKit
set_option linter.unusedVariables false

theorem gAll_app (g : List Nat) (t : List (Nat × Nat)) (e : Nat × Nat) : gAll g (t ++ [e]) = joinF (gAll g t) e := by simp [gAll, List.foldl_append]
theorem okAll_app : ∀ (t : List (Nat × Nat)) (g : List Nat) (e : Nat × Nat), okAll g t = true → gi (gAll g t) e.1 ≠ gi (gAll g t) e.2 → okAll g (t ++ [e]) = true
  | [], g, e, _, h => by simp [okAll]; exact h
  | x :: t, g, e, h, h2 => by
    rw [okAll] at h
    rw [List.cons_append, okAll]
    split at h
    · simp at h
    · rename_i hne
      rw [if_neg hne]
      exact okAll_app t _ e h h2
theorem con_mono {s t : List (Nat × Nat)} (h : ∀ e ∈ s, e ∈ t) {i j : Nat} (hc : Con s i j) : Con t i j := by
  induction hc with
  | refl a => exact .refl a
  | edge he => exact .edge (h _ he)
  | symm _ ih => exact .symm ih
  | trans _ _ ih1 ih2 => exact .trans ih1 ih2
theorem con_same {gs : List Nat} {es : List (Nat × Nat)} (h : ∀ e ∈ es, gi gs e.1 = gi gs e.2) {i j : Nat} (hc : Con es i j) : gi gs i = gi gs j := by
  induction hc with
  | refl a => rfl
  | edge he => exact h _ he
  | symm _ ih => exact ih.symm
  | trans _ _ ih1 ih2 => exact ih1.trans ih2
theorem grid_tab : ((List.range 5).all fun w => (List.range 5).all fun h => w == 0 || h == 0 || decide (fixed (w * h) (gAll (List.range (w * h)) ((linksZ w h).map (lkN w))) ≤ 1)) = true := by decide +kernel
theorem grid_con (a b : Nat) (hg : gridB a b = true) (i : Nat) (hi : i < a * b) : Con ((linksZ a b).map (lkN a)) 0 i := by
  have hb := (gridB_iff _ _).1 hg
  have h := all2 grid_tab a b (by omega) (by omega)
  have h1 : (a == 0) = false := by simp; omega
  have h2 : (b == 0) = false := by simp; omega
  rw [h1, h2] at h
  have h : fixed (a * b) (gAll (List.range (a * b)) ((linksZ a b).map (lkN a))) ≤ 1 := by simpa using h
  have hbd := ends_lt hg (ls := linksZ a b) (fun l hl => hl)
  have hok := (run_facts ((linksZ a b).map (lkN a)) (List.range (a * b)) (start_ok (a * b)).1 hbd).1
  refine con_all _ _ _ (start_ok (a * b)).1 (fun i j hi hj hs => ?_) (fun e he => ⟨he, hbd e he⟩) 0 i (by omega) hi (fixed_one hok h (by omega) hi)
  rw [(start_ok (a * b)).2.2 i hi, (start_ok (a * b)).2.2 j hj] at hs
  subst hs
  exact .refl _
/-- The links that are used. -/
def outF : List Lk → List Bool → List Lk
  | l :: ls, true :: us => l :: outF ls us
  | _ :: ls, false :: us => outF ls us
  | _, _ => []
theorem outF_len : ∀ (ls : List Lk) (us : List Bool), ls.length = us.length → (outF ls us).length = us.count true
  | [], [], _ => rfl
  | [], _ :: _, h => by simp at h
  | _ :: _, [], h => by simp at h
  | l :: ls, true :: us, h => by simp [outF, outF_len ls us (by simpa using h)]
  | l :: ls, false :: us, h => by simp [outF, outF_len ls us (by simpa using h)]
theorem outF_mem : ∀ (ls : List Lk) (us : List Bool), ∀ l ∈ outF ls us, l ∈ ls
  | [], [], _, h => by simp [outF] at h
  | [], _ :: _, _, h => by simp [outF] at h
  | _ :: _, [], _, h => by simp [outF] at h
  | l :: ls, true :: us, x, h => by
    rw [outF] at h
    rcases List.mem_cons.1 h with rfl | h
    · simp
    · exact List.mem_cons_of_mem _ (outF_mem ls us x h)
  | l :: ls, false :: us, x, h => by
    rw [outF] at h
    exact List.mem_cons_of_mem _ (outF_mem ls us x h)
theorem outF_get : ∀ (ls : List Lk) (us : List Bool) (j : Nat) (h : j < ls.length), us.getD j false = true → ls[j] ∈ outF ls us
  | l :: ls, true :: us, 0, _, _ => by simp [outF]
  | l :: ls, false :: us, 0, _, h => by simp at h
  | l :: ls, true :: us, j + 1, h, hu => by
    rw [outF]
    exact List.mem_cons_of_mem _ (outF_get ls us j (by simpa using h) (by simpa using hu))
  | l :: ls, false :: us, j + 1, h, hu => by
    rw [outF]
    exact outF_get ls us j (by simpa using h) (by simpa using hu)
  | _ :: _, [], _, _, hu => by simp at hu
/-- While it grows. -/
structure TInv (n wd : Nat) (all : List Lk) (us : List Bool) (gs : List Nat) (c : Nat) : Prop where
  ul : us.length = all.length
  gl : gs.length = n
  cnt : us.count true = c
  ex : ∃ t : List (Nat × Nat), gs = gAll (List.range n) t ∧ okAll (List.range n) t = true ∧ t.length = c ∧ (∀ e ∈ t, ∃ j, ∃ h : j < all.length, us.getD j false = true ∧ lkN wd all[j] = e) ∧ (∀ j, (h : j < all.length) → us.getD j false = true → lkN wd all[j] ∈ t)
theorem TInv.start (n wd : Nat) (all : List Lk) : TInv n wd all (List.replicate all.length false) (List.range n) 0 := by
  refine ⟨by simp, by simp, by simp [List.count_replicate], [], rfl, rfl, rfl, fun e he => by simp at he, fun j h hu => ?_⟩
  exfalso
  rw [List.getD_eq_getElem?_getD, List.getElem?_replicate] at hu
  split at hu <;> simp at hu
theorem count_set_true : ∀ (us : List Bool) (j : Nat), j < us.length → us.getD j false = false → (us.set j true).count true = us.count true + 1
  | u :: us, 0, _, h => by have h : u = false := by simpa using h
                           subst h; simp
  | true :: us, j + 1, hj, h => by
    have := count_set_true us j (by simpa using hj) (by simpa using h)
    simp [this]
  | false :: us, j + 1, hj, h => by
    have := count_set_true us j (by simpa using hj) (by simpa using h)
    simp [this]
theorem TInv.step {n wd : Nat} {all : List Lk} {us : List Bool} {gs : List Nat} {c j : Nat} (h : TInv n wd all us gs c) (hj : j < all.length) (hu : us.getD j false = false) (hne : gi gs (lkN wd all[j]).1 ≠ gi gs (lkN wd all[j]).2) :
    TInv n wd all (us.set j true) (joinF gs (lkN wd all[j])) (c + 1) := by
  obtain ⟨t, e1, e2, e3, e4, e5⟩ := h.ex
  have hul := h.ul
  have hget : ∀ i, (us.set j true).getD i false = if i = j then true else us.getD i false := fun i => by
    rw [List.getD_eq_getElem?_getD, List.getD_eq_getElem?_getD, List.getElem?_set]
    by_cases e : j = i
    · subst e; simp [hul, hj]
    · rw [if_neg e, if_neg (Ne.symm e)]
  refine ⟨by simp [hul], by simp [joinF, h.gl], by rw [count_set_true us j (by omega) hu, h.cnt], t ++ [lkN wd all[j]], by rw [gAll_app, ← e1], okAll_app t _ _ e2 (by rw [← e1]; exact hne), by simp [e3], fun e he => ?_, fun i hi hui => ?_⟩
  · rcases List.mem_append.1 he with he | he
    · obtain ⟨i, hi, h1, h2⟩ := e4 e he
      exact ⟨i, hi, by rw [hget]; split <;> simp_all, h2⟩
    · obtain rfl : e = lkN wd all[j] := by simpa using he
      exact ⟨j, hj, by rw [hget, if_pos rfl], rfl⟩
  · rw [hget] at hui
    by_cases e : i = j
    · subst e; simp
    · rw [if_neg e] at hui
      exact List.mem_append_left _ (e5 i hi hui)
/-- There is a link that joins. -/
theorem TInv.more {a b : Nat} (hg : gridB a b = true) {us : List Bool} {gs : List Nat} {c : Nat} (h : TInv (a * b) a (linksZ a b) us gs c) (hc : c + 1 < a * b) :
    ∃ j, ∃ hj : j < (linksZ a b).length, us.getD j false = false ∧ gi gs (lkN a (linksZ a b)[j]).1 ≠ gi gs (lkN a (linksZ a b)[j]).2 := by
  obtain ⟨t, e1, e2, e3, e4, e5⟩ := h.ex
  have hbd := ends_lt hg (ls := linksZ a b) (fun l hl => hl)
  have htb : ∀ e ∈ t, e.1 < a * b ∧ e.2 < a * b := fun e he => by
    obtain ⟨j, hj, _, rfl⟩ := e4 e he
    exact hbd _ (List.mem_map.2 ⟨_, List.getElem_mem hj, rfl⟩)
  obtain ⟨r1, r2⟩ := run_facts t (List.range (a * b)) (start_ok (a * b)).1 htb
  rw [((sucs_le t _).2).1 e2, (start_ok (a * b)).2.1, e3] at r2
  have hno : ¬ ∀ e ∈ (linksZ a b).map (lkN a), gi gs e.1 = gi gs e.2 := fun hall => by
    have := one_fixed r1 (fun i hi => by rw [← e1]; exact con_same hall (grid_con a b hg i hi))
    omega
  have : ∃ e ∈ (linksZ a b).map (lkN a), gi gs e.1 ≠ gi gs e.2 := by
    refine Classical.byContradiction fun hx => hno fun e he => Classical.byContradiction fun h9 => hx ⟨e, he, h9⟩
  obtain ⟨e, he, hne⟩ := this
  obtain ⟨l, hl, rfl⟩ := List.mem_map.1 he
  obtain ⟨j, hj, rfl⟩ := List.getElem_of_mem hl
  refine ⟨j, hj, ?_, hne⟩
  cases hu : us.getD j false
  · rfl
  · exfalso
    have hm := e5 j hj hu
    have := edge_all t (List.range (a * b)) (by simp) htb _ hm
    rw [← e1] at this
    exact hne this
/-- At the end: a tree. -/
theorem TInv.tree {a b : Nat} (hg : gridB a b = true) {us : List Bool} {gs : List Nat} {c : Nat} (h : TInv (a * b) a (linksZ a b) us gs c) (hc : c + 1 = a * b) : treeB a b (outF (linksZ a b) us) = true := by
  obtain ⟨t, e1, e2, e3, e4, e5⟩ := h.ex
  have hbd := ends_lt hg (ls := linksZ a b) (fun l hl => hl)
  have htb : ∀ e ∈ t, e.1 < a * b ∧ e.2 < a * b := fun e he => by
    obtain ⟨j, hj, _, rfl⟩ := e4 e he
    exact hbd _ (List.mem_map.2 ⟨_, List.getElem_mem hj, rfl⟩)
  have hlen : (outF (linksZ a b) us).length = c := by rw [outF_len _ _ h.ul.symm, h.cnt]
  have hmem := outF_mem (linksZ a b) us
  have hob := ends_lt hg (ls := outF (linksZ a b) us) hmem
  have hcon := (tree_iff t (by omega) (by omega) htb).1 e2
  have hok : okAll (List.range (a * b)) ((outF (linksZ a b) us).map (lkN a)) = true := by
    refine (tree_iff _ (by omega) (by rw [List.length_map]; omega) hob).2 fun i hi => con_mono (fun e he => ?_) (hcon i hi)
    obtain ⟨j, hj, hu, rfl⟩ := e4 e he
    exact List.mem_map.2 ⟨_, outF_get _ _ j hj hu, rfl⟩
  unfold treeB
  simp only [Int.toNat_natCast]
  rw [hg, hok, decide_eq_true (show ((outF (linksZ a b) us).length : Int) = (a : Int) * (b : Int) - 1 by rw [hlen, ← Int.natCast_mul]; omega)]
  simp only [Bool.true_and, Bool.and_true, List.all_eq_true, List.contains_iff_mem]
  exact hmem
end Go.Proofs.Ytehnbalbpfmijaa

namespace Go.Proofs.Ytehnbalbpfmijaa
open Go.RowKit

/-- v is a slice of n bytes. -/
def RdU (w : World) (B : Nat) (v : Value) (n : Nat) : Prop := ∃ A c, v = .slice A n c ∧ n ≤ c ∧ c ≤ maxLen ∧ ∀ j, j < n → ∃ ad z, A = some ad ∧ ad.block < B ∧ 0 ≤ z ∧ z ≤ 255 ∧ w.cell? (ad.add j) = some (.int .u8 z)
theorem RdU.keep {w w' : World} {B : Nat} {v : Value} {n : Nat} (h : RdU w B v n) (hk : ∀ p : Addr, p.block < B → w'.cell? p = w.cell? p) : RdU w' B v n := by
  obtain ⟨A, c, e, h1, h2, h3⟩ := h
  refine ⟨A, c, e, h1, h2, fun j hj => ?_⟩
  obtain ⟨ad, z, e2, hb, z0, z1, hc⟩ := h3 j hj
  exact ⟨ad, z, e2, hb, z0, z1, (hk _ (by rw [addBlock]; exact hb)).trans hc⟩
theorem RdU.below {w w' : World} {B : Nat} {v : Value} {n : Nat} (h : RdU w B v n) (hb : Below B w w') : RdU w' B v n := h.keep fun _ hp => hb.cell hp
theorem RdU.more {w : World} {B B' : Nat} {v : Value} {n : Nat} (h : RdU w B v n) (hB : B ≤ B') : RdU w B' v n := by
  obtain ⟨A, c, e, h1, h2, h3⟩ := h
  refine ⟨A, c, e, h1, h2, fun j hj => ?_⟩
  obtain ⟨ad, z, e2, hb, r⟩ := h3 j hj
  exact ⟨ad, z, e2, by omega, r⟩

/-- Block q is a cursor over the n bytes of v. -/
def Cur (w : World) (q : Nat) (v : Value) (n : Nat) : Prop := ∃ (i : Nat) (h : Int), i ≤ n ∧ w.heap[q]? = some (.cells #[v, .int .i64 i, .int .i64 h] 143 (0, 0)) ∧ RdU w q v n
theorem Cur.lt {w : World} {q : Nat} {v : Value} {n : Nat} (h : Cur w q v n) : q < w.heap.size := by obtain ⟨_, _, _, h, _⟩ := h; exact lt_of_block h
/-- The cursor stays where neither it nor its bytes are written. -/
theorem Cur.grown {w w' : World} {q : Nat} {v : Value} {n : Nat} {row : Option Nat} (h : Cur w q v n) (hg : w.grownBy w' row) (hr : ∀ k, row = some k → q < k) : Cur w' q v n := by
  have hq := h.lt
  obtain ⟨i, x, hi, hb, hr2⟩ := h
  have hk : ∀ k, k ≤ q → w'.heap[k]? = w.heap[k]? := fun k hk => hg.block k (by omega) (fun e => by have := hr k e.symm; omega)
  exact ⟨i, x, hi, by rw [hk q (Nat.le_refl _)]; exact hb, hr2.keep fun p hp => World.cell?_of_block (hk _ (by omega))⟩
theorem Cur.below {w w' : World} {q : Nat} {v : Value} {n : Nat} (h : Cur w q v n) (hb : Below w.heap.size w w') : Cur w' q v n :=
  h.grown (row := none) ⟨hb.os, hb.tape, hb.output, hb.size, fun k hk _ => hb.block k hk⟩ fun k e => by simp at e

/-- A draw: some number r with P r comes back; the cursor's block alone is written. -/
def Draw (P : Int → Prop) (w : World) (q : Nat) (v : Value) (n : Nat) (e : Ending) (w' : World) : Prop := ∃ r, P r ∧ e = .returned (.int .i64 r) ∧ Cur w' q v n ∧ w.grownBy w' (some q)

theorem and255 (n : Int) : bits .and .i64 n 255 = n % 256 := by
  have h127 : (BitVec.ofInt 64 255).toNat = 2 ^ 8 - 1 := by decide
  have key : (BitVec.ofInt 64 n &&& BitVec.ofInt 64 255).toNat = (n % ((2 ^ 64 : Nat) : Int)).toNat % 2 ^ 8 := by
    rw [BitVec.toNat_and, BitVec.toNat_ofInt, h127, Nat.and_two_pow_sub_one_eq_mod]
  show IntKind.i64.wrap ((BitVec.ofInt 64 n &&& BitVec.ofInt 64 255).toNat : Nat) = n % 256
  rw [key, IntKind.wrap_i64]
  omega
def and255Z (n : Int) : Int := bits .and .i64 n 255
theorem and255Z_bd (n : Int) : 0 ≤ and255Z n ∧ and255Z n ≤ 255 := by unfold and255Z; rw [and255]; omega

set_option maxHeartbeats 1000000 in
theorem byte_any (q n : Nat) (v : Value) (w : World) (hc : Cur w q v n) :
    Calls Try.prog 162 #[.pointer (some ⟨q, 0, none⟩)] w (Draw (fun r => 0 ≤ r ∧ r ≤ 255) w q v n) := by
  obtain ⟨i, h, hi, hb, A, c, rfl, h1, h2, h3⟩ := hc
  unfold maxLen at h2
  have hsh1 : ∀ (W : World) (x : Int), Sem.run Try.prog (Op.shift BinOp.shr IntKind.i64 x IntKind.u64 33) W = .ok (.int .i64 (x / 8589934592)) W := fun W x => by rw [shift_shr _ _ _ _ (by omega) (by decide)]; rfl
  have hsh2 : ∀ (W : World) (x : Int), Sem.run Try.prog (Op.shift BinOp.shr IntKind.i64 x IntKind.u64 45) W = .ok (.int .i64 (x / 35184372088832)) W := fun W x => by rw [shift_shr _ _ _ _ (by omega) (by decide)]; rfl
  have c0 : w.cell? ⟨q, 0, none⟩ = some (.slice A n c) := by rw [blk_cell hb]; rfl
  have c1 : w.cell? ⟨q, 1, none⟩ = some (.int .i64 i) := by rw [blk_cell hb]; rfl
  have c2 : w.cell? ⟨q, 2, none⟩ = some (.int .i64 h) := by rw [blk_cell hb]; rfl
  have f1 : w.frozen? ⟨q, 1, none⟩ = false := blk_free hb
  have f2 : w.frozen? ⟨q, 2, none⟩ = false := blk_free hb
  by_cases hlt : i < n
  · obtain ⟨ad, z, rfl, hbl, z0, z1, hz⟩ := h3 i hlt
    have hi0 : (0 : Int) ≤ (i : Int) := by omega
    have hi1 : (i : Int) < (n : Int) := by omega
    go_enter Try.func162, Try.ntmps162
    go_wp2_with fail
    have hb1 := blk_setCell (k := 2) hb (.int .i64 (wrap64 (wrap64 (h * 6364136223846793005) + 1442695040888963407)))
    have hg1 := grownBy_set w q 2 (.int .i64 (wrap64 (wrap64 (h * 6364136223846793005) + 1442695040888963407)))
    have hz1 : (w.setCell ⟨q, 2, none⟩ (.int .i64 (wrap64 (wrap64 (h * 6364136223846793005) + 1442695040888963407)))).cell? (ad.add i) = some (.int .u8 z) :=
      (World.cell?_of_block (Below.heap_setCell _ _ _ _ (by rw [addBlock]; simp; omega))).trans hz
    generalize wrap64 (wrap64 (h * 6364136223846793005) + 1442695040888963407) = h' at *
    generalize w.setCell ⟨q, 2, none⟩ (.int .i64 h') = W at *
    have c0' : W.cell? ⟨q, 0, none⟩ = some (.slice (some ad) n c) := by rw [blk_cell hb1]; rfl
    have c1' : W.cell? ⟨q, 1, none⟩ = some (.int .i64 i) := by rw [blk_cell hb1]; rfl
    have c2' : W.cell? ⟨q, 2, none⟩ = some (.int .i64 h') := by rw [blk_cell hb1]; rfl
    have f1' : W.frozen? ⟨q, 1, none⟩ = false := blk_free hb1
    clear c0 c1 c2 f1 f2
    go_quiet (fail)
    go_wp2_with fail
    go_quiet (fail)
    go_wp2_with fail
    go_quiet (fail)
    go_wp2_with fail
    go_ret
    have hR : RdU w q (.slice (some ad) n c) n := ⟨some ad, c, rfl, h1, by unfold maxLen; omega, h3⟩
    refine ⟨_, and255Z_bd _, rfl, ⟨i + 1, h', by omega, ?_, ?_⟩, ?_⟩
    · exact (blk_setCell (w := W) hb1 (.int .i64 ((i : Int) + 1))).trans (by simp)
    · exact hR.keep fun p hp => (World.cell?_of_block (Below.heap_setCell _ _ _ _ (by simp; omega))).trans (World.cell?_of_block (hg1.block _ (by have := lt_of_block hb; omega) (fun e => by simp at e; omega)))
    · exact hg1.trans ((grownBy_drewN W _ _).trans (grownBy_set _ q 1 (.int .i64 ((i : Int) + 1))))
  · have hi1 : ¬ (i : Int) < (n : Int) := by omega
    go_enter Try.func162, Try.ntmps162
    go_wp2_with fail
    have hb1 := blk_setCell (k := 2) hb (.int .i64 (wrap64 (wrap64 (h * 6364136223846793005) + 1442695040888963407)))
    have hg1 := grownBy_set w q 2 (.int .i64 (wrap64 (wrap64 (h * 6364136223846793005) + 1442695040888963407)))
    generalize wrap64 (wrap64 (h * 6364136223846793005) + 1442695040888963407) = h' at *
    generalize w.setCell ⟨q, 2, none⟩ (.int .i64 h') = W at *
    have c0' : W.cell? ⟨q, 0, none⟩ = some (.slice A n c) := by rw [blk_cell hb1]; rfl
    have c1' : W.cell? ⟨q, 1, none⟩ = some (.int .i64 i) := by rw [blk_cell hb1]; rfl
    have c2' : W.cell? ⟨q, 2, none⟩ = some (.int .i64 h') := by rw [blk_cell hb1]; rfl
    clear c0 c1 c2 f1 f2
    go_quiet (fail)
    go_wp2_with fail
    go_quiet (fail)
    go_wp2_with fail
    go_ret
    have hR : RdU w q (.slice A n c) n := ⟨A, c, rfl, h1, by unfold maxLen; omega, h3⟩
    refine ⟨_, and255Z_bd _, rfl, ⟨i, h', by omega, ?_, ?_⟩, ?_⟩
    · exact hb1
    · exact hR.keep fun p hp => World.cell?_of_block (hg1.block _ (by have := lt_of_block hb; omega) (fun e => by simp at e; omega))
    · exact hg1.trans ((grownBy_drewN W _ _).trans (grownBy_drewN _ _ _))

set_option maxHeartbeats 1000000 in
theorem below_any (q n : Nat) (v : Value) (m : Int) (w : World) (hc : Cur w q v n) (h1 : 1 ≤ m) (h2 : m ≤ 256) :
    Calls Try.prog 131 #[.pointer (some ⟨q, 0, none⟩), .int .i64 m] w (Draw (fun r => 0 ≤ r ∧ r < m) w q v n) := by
  go_enter Try.func131, Try.ntmps131
  go_wp2_with fail
  refine (byte_any q n v w hc).mono ?_
  rintro e w1 ⟨r, ⟨h3, h4⟩, rfl, hc1, hg1⟩
  go_wp2_with fail
  go_ret
  exact ⟨r % m, ⟨Int.emod_nonneg _ (by omega), Int.emod_lt_of_pos _ (by omega)⟩, ret_int (by first | rfl | omega), hc1, hg1⟩

/-- A new cursor. -/
def NewCur (w : World) (v : Value) (n : Nat) (e : Ending) (w' : World) : Prop := e = .returned (.pointer (some ⟨w.heap.size, 0, none⟩)) ∧ Cur w' w.heap.size v n ∧ Below w.heap.size w w'
set_option maxHeartbeats 1000000 in
theorem new_any (v : Value) (n B : Nat) (w : World) (hv : RdU w B v n) (hB : B ≤ w.heap.size) :
    Calls Try.prog 64 #[v] w (NewCur w v n) := by
  have HV := Lib.hid (hv.more hB)
  obtain ⟨A, c, rfl, h1, h2, h3⟩ := hv
  unfold maxLen at h2
  go_enter Try.func64, Try.ntmps64
  go_wp2_with fail
  go_loop [3, 4] (fun h i => ∃ (k : Nat) (x : Int), k ≤ n ∧ k ≤ 4000 ∧ i = .int .i64 k ∧ h = .int .i64 x) (fun _ i => n - (intOf i).toNat)
  case atStart => exact ⟨0, _, by omega, by omega, rfl, rfl⟩
  case round =>
    obtain ⟨k, x, hk, hk2, rfl, rfl⟩ := hrel
    by_cases hlt : k < n
    · by_cases hlt2 : k < 4000
      · obtain ⟨ad, z, rfl, hbl, z0, z1, hz⟩ := h3 k hlt
        have b1 : decide ((k : Int) < (n : Int)) = true := by simp; omega
        have b2 : decide ((k : Int) < 4000) = true := by simp; omega
        go_wp2_with fail
        go_round
        case rel => exact ⟨k + 1, _, by omega, by omega, by go_num, rfl⟩
        case measure => simp [intOf]; omega
      · have b1 : decide ((k : Int) < (n : Int)) = true := by simp; omega
        have b2 : decide ((k : Int) < 4000) = false := by simp; omega
        go_wp2_with fail
        go_ret
        refine ⟨rfl, ⟨0, x, by omega, ?_, (HV.out.below ((Below.refl _ _).alloc (Nat.le_refl _) _))⟩, (Below.refl _ _).alloc (Nat.le_refl _) _⟩
        exact heap_alloc_new w _
    · have b1 : decide ((k : Int) < (n : Int)) = false := by simp; omega
      go_wp2_with fail
      go_ret
      refine ⟨rfl, ⟨0, x, by omega, ?_, (HV.out.below ((Below.refl _ _).alloc (Nat.le_refl _) _))⟩, (Below.refl _ _).alloc (Nat.le_refl _) _⟩
      exact heap_alloc_new w _
end Go.Proofs.Ytehnbalbpfmijaa

namespace Go.Proofs.Ytehnbalbpfmijaa
open Go.RowKit

theorem acc0 {α : Type} {E : El α} {wr : World} {lo : Nat} {v : Value} {xs : List α} (h : OwnF E wr lo v xs) (hl : lo ≤ wr.heap.size) : Acc E { wr with heap := #[] } lo wr v xs :=
  ⟨h, ⟨rfl, rfl, rfl, Nat.zero_le _, fun _ hk => absurd hk (Nat.not_lt_zero _)⟩, Nat.zero_le _, hl⟩
theorem acc0I {wr : World} {lo : Nat} {v : Value} {xs : List Int} (h : OwnI wr lo v xs) (hl : lo ≤ wr.heap.size) : Acc elInt { wr with heap := #[] } lo wr v xs := acc0 (ownF_int.2 h) hl
/-- Only row, of what w had, is written: it stays so where what is younger than w grows. -/
theorem grownBy_more {w wr w' : World} {row row' : Option Nat} (h : w.grownBy wr row) (hg : wr.grownBy w' row') (hr : ∀ k, row' = some k → w.heap.size ≤ k ∨ row = some k) : w.grownBy w' row :=
  ⟨hg.os.trans h.os, hg.tape.trans h.tape, hg.output.trans h.output, Nat.le_trans h.size hg.size, fun k hk hne => (hg.block k (Nat.lt_of_lt_of_le hk h.size) (fun e => by
    rcases hr k e.symm with h1 | h1
    · omega
    · exact hne h1.symm)).trans (h.block k hk hne)⟩
theorem grownBy_below {w wr w' : World} {row : Option Nat} (h : w.grownBy wr row) (hb : Below wr.heap.size wr w') : w.grownBy w' row :=
  grownBy_more h (row' := none) ⟨hb.os, hb.tape, hb.output, hb.size, fun k hk _ => hb.block k hk⟩ (fun k e => by simp at e)
theorem grownBy_alloc (w : World) (o : Obj) (row : Option Nat) : w.grownBy (w.alloc o) row := ⟨rfl, rfl, rfl, by simp, fun _ hk _ => Below.heap_alloc _ _ _ hk⟩
/-- A young row written: below the old heap nothing turns. -/
theorem below_young {w0 w w' : World} {q : Nat} (hb : Below w0.heap.size w0 w) (hg : w.grownBy w' (some q)) (hq : w0.heap.size ≤ q) : Below w0.heap.size w0 w' :=
  hb.grown hg hb.size fun k hk => by simp at hk; omega
end Go.Proofs.Ytehnbalbpfmijaa
