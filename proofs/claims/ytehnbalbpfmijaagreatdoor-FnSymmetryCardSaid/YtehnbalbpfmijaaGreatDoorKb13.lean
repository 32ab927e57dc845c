/- What the claim's walk rests on: parts Flip2, Flip3, CurOwn, Cur, SqDraw, SymW. -/
import Derived.Test.YtehnbalbpfmijaaGreatDoorKb12
import Derived.Test.YtehnbalbpfmijaaGreatDoorKb6
import Derived.Test.YtehnbalbpfmijaaGreatDoorKb3
import Derived.Test.YtehnbalbpfmijaaGreatDoorKb1
import Derived.Test.YtehnbalbpfmijaaGreatDoorKb10
import Derived.Test.YtehnbalbpfmijaaGreatDoorKb5
import Derived.Test.YtehnbalbpfmijaaGreatDoorKb7
import Derived.Test.YtehnbalbpfmijaaGreatDoorKb11
import Derived.Deep.QuietTactic
import Derived.BigQuiet
import Derived.OneCell
import Derived.Laws.Bits128
namespace Go.Proofs.YtehnbalbpfmijaaGreatDoor
open Go.RowKit
set_option linter.unusedVariables false

theorem ret_num {a b : Int} (h : a = b) : Ending.returned (.int .i64 a) = .returned (.int .i64 b) := by rw [h]
theorem fst_iff (p : Nat → Bool) : ∀ (n k : Nat), 0 ≤ fstZ p n k ↔ ∃ i, k ≤ i ∧ i < k + n ∧ p i = true
  | 0, k => by
    rw [fstZ]
    exact ⟨fun h => by omega, fun ⟨i, h1, h2, _⟩ => by omega⟩
  | n + 1, k => by
    rw [fstZ]
    cases hp : p k
    · rw [if_neg (by simp), fst_iff p n (k + 1)]
      constructor
      · rintro ⟨i, h1, h2, h3⟩; exact ⟨i, by omega, by omega, h3⟩
      · rintro ⟨i, h1, h2, h3⟩
        have : i ≠ k := fun e => by rw [e, hp] at h3; simp at h3
        exact ⟨i, by omega, by omega, h3⟩
    · rw [if_pos rfl]
      exact ⟨fun _ => ⟨k, Nat.le_refl _, by omega, hp⟩, fun _ => by omega⟩
theorem hasL_iff (ls : List Lk) (l : Lk) : hasL ls l = true ↔ l ∈ ls := by
  unfold hasL
  rw [decide_eq_true_eq, fst_iff]
  constructor
  · rintro ⟨i, _, h2, h3⟩
    have hi : i < ls.length := by omega
    have hg := dAt_get ls i hi
    unfold lkEq at h3
    simp only [Bool.and_eq_true, beq_iff_eq] at h3
    have : dAt ls i = l := by unfold dAt; exact Prod.ext h3.1 (Prod.ext h3.2.1 h3.2.2)
    rw [← this, hg]
    exact List.getElem_mem hi
  · intro hm
    obtain ⟨i, hi, rfl⟩ := List.mem_iff_getElem.1 hm
    refine ⟨i, Nat.zero_le _, by omega, ?_⟩
    have hg := dAt_get ls i hi
    unfold dAt at hg
    unfold lkEq
    rw [← hg]
    simp
/-- Both dominoes lie at a cell. -/
def bothL (ls : List Lk) (x y : Int) (d : Bool) : Bool := hasL ls (x, y, d) && hasL ls (othX x d, othY y d, d)
def inF (x y : Int) : Bool := inB x 0 6 && inB y 0 6
/-- What l11Kind returns. -/
def kindZ (ls : List Lk) (x y : Int) : Int := if inF x y then (if bothL ls x y false then 1 else if bothL ls x y true then 2 else 0) else 0
theorem oth_quad (x y : Int) (d : Bool) : (x, y, d) = (quadL x y d).1 ∧ (othX x d, othY y d, d) = (quadL x y d).2 := by cases d <;> exact ⟨rfl, rfl⟩
theorem kind_pos {ls : List Lk} {x y : Int} (h : 0 < kindZ ls x y) : ((0 ≤ x ∧ x ≤ 6) ∧ 0 ≤ y ∧ y ≤ 6) ∧ ∃ d, kindZ ls x y = (if d then 2 else 1) ∧ (quadL x y d).1 ∈ ls ∧ (quadL x y d).2 ∈ ls := by
  unfold kindZ at h ⊢
  cases hi : inF x y
  · rw [hi] at h; simp at h
  · have hr := hi
    unfold inF at hr
    rw [Bool.and_eq_true, inB_iff, inB_iff] at hr
    refine ⟨hr, ?_⟩
    rw [hi] at h
    simp only [if_true] at h ⊢
    have key : ∀ d, bothL ls x y d = true → (quadL x y d).1 ∈ ls ∧ (quadL x y d).2 ∈ ls := fun d hb => by
      unfold bothL at hb
      rw [Bool.and_eq_true, hasL_iff, hasL_iff, (oth_quad x y d).1, (oth_quad x y d).2] at hb
      exact hb
    cases h1 : bothL ls x y false
    · cases h2 : bothL ls x y true
      · rw [h1, h2] at h; simp at h
      · exact ⟨true, by simp, key true h2⟩
    · exact ⟨false, by simp, key false h1⟩
theorem kind_of {ls : List Lk} {x y : Int} (hi : inF x y = true) (d : Bool) (h1 : (quadL x y d).1 ∈ ls) (h2 : (quadL x y d).2 ∈ ls) : 0 < kindZ ls x y := by
  have hb : bothL ls x y d = true := by
    unfold bothL
    rw [Bool.and_eq_true, hasL_iff, hasL_iff, (oth_quad x y d).1, (oth_quad x y d).2]
    exact ⟨h1, h2⟩
  unfold kindZ
  rw [hi]
  simp only [if_true]
  cases h3 : bothL ls x y false
  · cases d
    · rw [h3] at hb; simp at hb
    · rw [hb]; simp
  · simp

set_option maxRecDepth 100000 in
set_option maxHeartbeats 4000000 in
theorem l11Kind_any (v : Value) (ls : List Lk) (x y : Int) (B : Nat) (w : World) (h : RdF elDomino w B v ls) (hB : B ≤ w.heap.size) :
    Calls Tryz.prog 60 #[v, spotV x y] w fun e w' => e = .returned (.int .i64 (kindZ ls x y)) ∧ Below w.heap.size w w' := by
  have HHA := Lib.hid (fun V (hb : Below w.heap.size w V) x y d => l11Has_any v ls x y d B V (h.below (hb.mono hB)) (Nat.le_trans hB hb.size))
  obtain ⟨A, c, rfl, g1, g2, _⟩ := h
  unfold maxLen at g2
  obtain ⟨W, hW, k0, hb0⟩ := one_alloc w (.cells #[.int .i64 x, .int .i64 y] 44)
  have c0 : W.cell? ⟨w.heap.size, 0, none⟩ = some (.int .i64 x) := by rw [blk_cell k0]; rfl
  have c1 : W.cell? ⟨w.heap.size, 1, none⟩ = some (.int .i64 y) := by rw [blk_cell k0]; rfl
  have HK0 := Lib.hid k0
  have HB0 := Lib.hid hb0
  cases hx : inB x 0 6
  · have HZ : Hid ((0 : Int) = kindZ ls x y) := by unfold Hid kindZ inF; rw [hx]; rfl
    go_enter Tryz.func60, Tryz.ntmps60
    go_upto_region 1 with (fail)
    rw [← hW]
    clear hW k0 hb0
    go_wp2_with fail
    refine (l01In_any _ _ _ _).mono ?_
    rintro e w0 ⟨rfl, rfl⟩
    rw [hx]
    go_wp2_with fail
    go_ret
    exact ⟨ret_num HZ.out, HB0.out⟩
  · cases hy : inB y 0 6
    · have HZ : Hid ((0 : Int) = kindZ ls x y) := by unfold Hid kindZ inF; rw [hx, hy]; rfl
      go_enter Tryz.func60, Tryz.ntmps60
      go_upto_region 1 with (fail)
      rw [← hW]
      clear hW k0 hb0
      go_wp2_with fail
      refine (l01In_any _ _ _ _).mono ?_
      rintro e w0 ⟨rfl, rfl⟩
      rw [hx]
      go_wp2_with fail
      refine (l01In_any _ _ _ _).mono ?_
      rintro e w0 ⟨rfl, rfl⟩
      rw [hy]
      go_wp2_with fail
      go_ret
      exact ⟨ret_num HZ.out, HB0.out⟩
    · have HZ : Hid (kindZ ls x y = if bothL ls x y false then 1 else if bothL ls x y true then 2 else 0) := by unfold Hid kindZ inF; rw [hx, hy]; rfl
      have hxr := (inB_iff _ _ _).1 hx
      have hyr := (inB_iff _ _ _).1 hy
      have HPR := Lib.hid (fun d V => l11Pair_yes x y d hxr hyr V)
      obtain ⟨zz, HZZ⟩ : ∃ zz, Hid ((if bothL ls x y false then (1 : Int) else if bothL ls x y true then 2 else 0) = zz) := ⟨_, rfl⟩
      rw [HZ.out, HZZ.out]
      go_enter Tryz.func60, Tryz.ntmps60
      go_upto_region 1 with (fail)
      rw [← hW]
      clear hW k0 hb0
      go_wp2_with fail
      refine (l01In_any _ _ _ _).mono ?_
      rintro e w0 ⟨rfl, rfl⟩
      rw [hx]
      go_wp2_with fail
      refine (l01In_any _ _ _ _).mono ?_
      rintro e w0 ⟨rfl, rfl⟩
      rw [hy]
      clear hx hy hxr hyr
      go_wp2_with fail
      clear c0 c1
      go_loopw [5] (fun s wr => ∃ k : Nat, (1 ≤ k ∧ k ≤ 3) ∧ s = .int .i64 (k : Int) ∧ Hid (Below W.heap.size W wr) ∧ Hid (1 < k → bothL ls x y false = false) ∧ Hid (2 < k → bothL ls x y true = false)) (fun s _ => 4 - (intOf s).toNat)
      case atStart => exact ⟨1, by omega, rfl, Below.refl _ _, fun h => by omega, fun h => by omega⟩
      case round =>
        obtain ⟨k, hk, rfl, HB, HF, HT⟩ := hrel
        by_cases hk2 : k ≤ 2
        · have ht : decide ((k : Int) ≤ 2) = true := by simp only [decide_eq_true_eq]; omega
          have hdn : ((k : Int) == 2) = decide (k = 2) := by rw [Bool.eq_iff_iff, beq_iff_eq, decide_eq_true_eq]; omega
          obtain ⟨dn, HDN⟩ : ∃ dn, Hid (decide (k = 2) = dn) := ⟨_, rfl⟩
          rw [HDN.out] at hdn
          have HKR := Lib.hid (blk_below HK0.out HB.out)
          have d0 : wr.cell? ⟨w.heap.size, 0, none⟩ = some (.int .i64 x) := by rw [blk_cell HKR.out]; rfl
          have d1 : wr.cell? ⟨w.heap.size, 1, none⟩ = some (.int .i64 y) := by rw [blk_cell HKR.out]; rfl
          have HBW := Lib.hid (HB0.out.trans (HB.out.mono HB0.out.size))
          have hk0 : (0 : Int) ≤ (k : Int) := by omega
          have hk1 : (k : Int) ≤ 2 := by omega
          have HBO : Hid (bothL ls x y dn = (hasL ls (x, y, dn) && hasL ls (othX x dn, othY y dn, dn))) := rfl
          have HH1 : Hid (hasL ls (x, y, dn) = decide (0 ≤ fstZ (lkEq ls x y dn) ls.length 0)) := rfl
          have HH2 : Hid (hasL ls (othX x dn, othY y dn, dn) = decide (0 ≤ fstZ (lkEq ls (othX x dn) (othY y dn) dn) ls.length 0)) := rfl
          rw [HH1.out, HH2.out] at HBO
          have HA1 := Lib.hid (fun V (hb : Below w.heap.size w V) => HHA.out V hb x y dn)
          have HA2 := Lib.hid (fun V (hb : Below w.heap.size w V) => HHA.out V hb (othX x dn) (othY y dn) dn)
          generalize fstZ (lkEq ls x y dn) ls.length 0 = q1 at *
          generalize fstZ (lkEq ls (othX x dn) (othY y dn) dn) ls.length 0 = q2 at *
          generalize hox : othX x dn = ox at *
          generalize hoy : othY y dn = oy at *
          have HP := Lib.hid (HPR.out dn)
          rw [hox, hoy] at HP
          clear HH1 HH2 hox hoy
          go_wp2_with fail
          refine (HP.out _).mono ?_
          rintro e w3 ⟨rfl, hb3⟩
          have HB3 := Lib.hid (HBW.out.trans (hb3.mono HBW.out.size))
          have HBC := Lib.hid (HB.out.trans (hb3.mono HB.out.size))
          obtain ⟨V4, hV4, p1, p2, hb4⟩ := two_alloc w3 (triO x y dn 51) (triO ox oy dn 51)
          have HB4 := Lib.hid (HB3.out.trans (hb4.mono HB3.out.size))
          have HBC4 := Lib.hid (HBC.out.trans (hb4.mono HBC.out.size))
          have HP2 := Lib.hid p2
          obtain ⟨m0, m1, m2⟩ := tri_cells p1
          have HV4 := Lib.hid hV4
          rw [hV4] at m0 m1 m2
          clear hV4 p1 p2 hb3 hb4 d0 d1
          go_wp2_with fail
          rw [← HV4.out]
          clear m0 m1 m2 HV4
          refine (HA1.out V4 HB4.out).mono ?_
          rintro e w5 ⟨rfl, hb5⟩
          have HB5 := Lib.hid (HB4.out.trans (hb5.mono HB4.out.size))
          have HBC5 := Lib.hid (HBC4.out.trans (hb5.mono HBC4.out.size))
          obtain ⟨n0, n1, n2⟩ := tri_cells (blk_below HP2.out hb5)
          clear hb5 HP2
          have HNX : Hid (bothL ls x y dn = false → (1 < k + 1 → bothL ls x y false = false) ∧ (2 < k + 1 → bothL ls x y true = false)) := by
            intro hb
            refine ⟨fun _ => ?_, fun h2 => ?_⟩
            · by_cases e : k = 1
              · have : dn = false := by rw [← HDN.out]; simp [e]
                rw [this] at hb; exact hb
              · exact HF.out (by omega)
            · have : dn = true := by rw [← HDN.out]; simp; omega
              rw [this] at hb; exact hb
          by_cases hq1 : 0 ≤ q1
          · have hg1 : decide (0 ≤ q1) = true := by rw [decide_eq_true_eq]; exact hq1
            rw [hg1, Bool.true_and] at HBO
            clear hq1
            go_wp2_with fail
            refine (HA2.out w5 HB5.out).mono ?_
            rintro e w6 ⟨rfl, hb6⟩
            have HB6 := Lib.hid (HB5.out.trans (hb6.mono HB5.out.size))
            have HBC6 := Lib.hid (HBC5.out.trans (hb6.mono HBC5.out.size))
            clear hb6
            by_cases hq2 : 0 ≤ q2
            · have hg2 : decide (0 ≤ q2) = true := by rw [decide_eq_true_eq]; exact hq2
              rw [hg2] at HBO
              have HV : Hid ((k : Int) = if bothL ls x y false then 1 else if bothL ls x y true then 2 else 0) := by
                have hb := HBO.out
                by_cases e : k = 1
                · have : dn = false := by rw [← HDN.out]; simp [e]
                  rw [this] at hb
                  unfold Hid
                  rw [hb, e]; rfl
                · have : dn = true := by rw [← HDN.out]; simp; omega
                  rw [this] at hb
                  unfold Hid
                  rw [HF.out (by omega), hb]
                  have : k = 2 := by omega
                  subst this; rfl
              clear hq2
              go_wp2_with fail
              go_ret
              exact ⟨ret_num (HV.out.trans HZZ.out), HB6.out⟩
            · have hg2 : decide (0 ≤ q2) = false := by rw [decide_eq_false_iff_not]; exact hq2
              rw [hg2] at HBO
              have HN := Lib.hid (HNX.out HBO.out)
              clear hq2
              go_wp2_with fail
              go_roundw
              case rel => exact ⟨k + 1, by omega, by go_num, HBC6, HN.out.1, HN.out.2⟩
              case measure => simp [intOf]; omega
          · have hg1 : decide (0 ≤ q1) = false := by rw [decide_eq_false_iff_not]; exact hq1
            rw [hg1, Bool.false_and] at HBO
            have HN := Lib.hid (HNX.out HBO.out)
            clear hq1
            go_wp2_with fail
            go_roundw
            case rel => exact ⟨k + 1, by omega, by go_num, HBC5, HN.out.1, HN.out.2⟩
            case measure => simp [intOf]; omega
        · have ht : decide ((k : Int) ≤ 2) = false := by simp only [decide_eq_false_iff_not]; omega
          have HV : Hid ((0 : Int) = if bothL ls x y false then 1 else if bothL ls x y true then 2 else 0) := by
            unfold Hid
            rw [HF.out (by omega), HT.out (by omega)]; rfl
          go_wp2_with fail
          go_ret
          exact ⟨ret_num (HV.out.trans HZZ.out), HB0.out.trans (HB.out.mono HB0.out.size)⟩

/-- The cells with a pair. -/
def flipsTo (ls : List Lk) : Nat → List (Int × Int)
  | 0 => []
  | k + 1 => if 0 < kindZ ls ((k % 8 : Nat) : Int) ((k / 8 : Nat) : Int) then flipsTo ls k ++ [(((k % 8 : Nat) : Int), ((k / 8 : Nat) : Int))] else flipsTo ls k
def flipsZ (ls : List Lk) : List (Int × Int) := flipsTo ls 64
theorem flipsTo_len (ls : List Lk) : ∀ k, (flipsTo ls k).length ≤ k
  | 0 => Nat.le_refl _
  | k + 1 => by have := flipsTo_len ls k; rw [flipsTo]; split <;> simp <;> omega
theorem flipsTo_mem (ls : List Lk) : ∀ k c, c ∈ flipsTo ls k → 0 < kindZ ls c.1 c.2
  | 0, c, h => by simp [flipsTo] at h
  | k + 1, c, h => by
    rw [flipsTo] at h
    split at h
    · rename_i hk
      rcases List.mem_append.1 h with h | h
      · exact flipsTo_mem ls k c h
      · rw [List.mem_singleton] at h; subst h; exact hk
    · exact flipsTo_mem ls k c h
theorem flipsTo_has (ls : List Lk) (j : Nat) (hj : 0 < kindZ ls ((j % 8 : Nat) : Int) ((j / 8 : Nat) : Int)) : ∀ k, j < k → 0 < (flipsTo ls k).length
  | 0, h => by omega
  | k + 1, h => by
    rw [flipsTo]
    split
    · simp
    · rename_i hk
      have : j ≠ k := fun e => by rw [e] at hj; exact hk hj
      exact flipsTo_has ls j hj k (by omega)

set_option maxRecDepth 100000 in
set_option maxHeartbeats 4000000 in
theorem FlipsOf_any (v : Value) (ls : List Lk) (B : Nat) (w : World) (h : RdF elDomino w B v ls) (hB : B ≤ w.heap.size) :
    Calls Tryz.prog 32 #[v] w fun e w' => ∃ u, e = .returned u ∧ OwnF elCell w' w.heap.size u (flipsZ ls) ∧ Below w.heap.size w w' := by
  have HKI := Lib.hid (fun V (hb : Below w.heap.size w V) x y => l11Kind_any v ls x y B V (h.below (hb.mono hB)) (Nat.le_trans hB hb.size))
  have HZ : Hid (flipsZ ls = flipsTo ls 64) := rfl
  rw [HZ.out]
  have HST : Hid (∀ k, flipsTo ls (k + 1) = if 0 < kindZ ls ((k % 8 : Nat) : Int) ((k / 8 : Nat) : Int) then flipsTo ls k ++ [(((k % 8 : Nat) : Int), ((k / 8 : Nat) : Int))] else flipsTo ls k) := fun _ => rfl
  have HSL := Lib.hid (flipsTo_len ls)
  have HS0 : Hid (flipsTo ls 0 = []) := rfl
  obtain ⟨st, HE⟩ : ∃ st, Hid (st = flipsTo ls) := ⟨_, rfl⟩
  rw [← HE.out] at HST HSL HS0 ⊢
  obtain ⟨A, c, rfl, g1, g2, _⟩ := h
  unfold maxLen at g2
  have HA0 : Hid (Acc elCell w w.heap.size (w.alloc (.cells #[] 44)) (.slice (some ⟨w.heap.size, 0, none⟩) 0 0) []) := Acc.start w
  clear HE HZ
  go_enter Tryz.func32, Tryz.ntmps32
  go_wp2_with fail
  go_loopw [3, 4] (fun o i wr => ∃ (k : Nat) (x : Value), k ≤ 64 ∧ i = .int .i64 (k : Int) ∧ x = o ∧ Hid (Acc elCell w w.heap.size wr x (st k))) (fun _ i _ => 64 - (intOf i).toNat)
  case atStart => exact ⟨0, _, Nat.zero_le _, rfl, rfl, by rw [HS0.out]; exact HA0⟩
  case round =>
    obtain ⟨k, x, hk, rfl, rfl, HA⟩ := hrel
    obtain ⟨A1, ca, hv, q3, q4, _⟩ := HA.out.1.rd okCell
    subst hv
    unfold maxLen at q4
    have hlen := HSL.out k
    by_cases hlt : k < 64
    · have ht : decide ((k : Int) < 64) = true := by simp only [decide_eq_true_eq]; omega
      have HCA := Lib.hid (CellAt_yes k (by omega))
      have HSK := Lib.hid (HST.out k)
      have hk0 : (0 : Int) ≤ (k : Int) := by omega
      have hk1 : (k : Int) < 64 := by omega
      obtain ⟨x, HX⟩ : ∃ x, Hid (((k % 8 : Nat) : Int) = x) := ⟨_, rfl⟩
      obtain ⟨y, HY⟩ : ∃ y, Hid (((k / 8 : Nat) : Int) = y) := ⟨_, rfl⟩
      rw [HX.out, HY.out] at HCA HSK
      have HKK := Lib.hid (fun V (hb : Below w.heap.size w V) => HKI.out V hb x y)
      generalize kindZ ls x y = q at *
      generalize st k = ys at *
      clear HX HY
      go_wp2_with fail
      refine (HCA.out _).mono ?_
      rintro e w2 ⟨rfl, hb2⟩
      have HA2 := Lib.hid (HA.out.below hb2)
      obtain ⟨V3, hV3, p1, hb3⟩ := one_alloc w2 (.cells #[.int .i64 x, .int .i64 y] 44)
      have HA3 := Lib.hid (HA2.out.below hb3)
      have HP := Lib.hid p1
      have HV3 := Lib.hid hV3
      have m0 : V3.cell? ⟨w2.heap.size, 0, none⟩ = some (.int .i64 x) := by rw [blk_cell p1]; rfl
      have m1 : V3.cell? ⟨w2.heap.size, 1, none⟩ = some (.int .i64 y) := by rw [blk_cell p1]; rfl
      rw [hV3] at m0 m1
      clear hV3 p1 hb2 hb3
      go_wp2_with fail
      rw [← HV3.out]
      clear m0 m1 HV3
      refine (HKK.out V3 HA3.out.2.1).mono ?_
      rintro e w4 ⟨rfl, hb4⟩
      have HA4 := Lib.hid (HA3.out.below hb4)
      have HP4 := Lib.hid (blk_below HP.out hb4)
      clear hb4
      have n0 : w4.cell? ⟨w2.heap.size, 0, none⟩ = some (.int .i64 x) := by rw [blk_cell HP4.out]; rfl
      have n1 : w4.cell? ⟨w2.heap.size, 1, none⟩ = some (.int .i64 y) := by rw [blk_cell HP4.out]; rfl
      by_cases hq : 0 < q
      · have hg : decide (0 < q) = true := by rw [decide_eq_true_eq]; exact hq
        have HS2 : Hid (st (k + 1) = ys ++ [(x, y)]) := by unfold Hid; rw [HSK.out, if_pos hq]
        clear hq HSK
        go_wp2_with (at_builtin; refine wpList_push okCell rfl _ _ rfl HA4.out rfl (x, y) _ rfl _ rfl rfl (by omega) ?_; intro v10 w10 HA10 HG10)
        go_roundw
        case rel => exact ⟨k + 1, _, by omega, by go_num, rfl, by rw [HS2.out]; exact HA10⟩
        case measure => simp [intOf]; omega
      · have hg : decide (0 < q) = false := by rw [decide_eq_false_iff_not]; exact hq
        have HS2 : Hid (st (k + 1) = ys) := by unfold Hid; rw [HSK.out, if_neg hq]
        clear hq HSK
        go_wp2_with fail
        go_roundw
        case rel => exact ⟨k + 1, _, by omega, by go_num, rfl, by rw [HS2.out]; exact HA4⟩
        case measure => simp [intOf]; omega
    · obtain rfl : k = 64 := by omega
      have ht : decide (((64 : Nat) : Int) < 64) = false := by simp
      go_wp2_with fail
      go_ret
      exact ⟨_, rfl, HA.out.1, HA.out.2.1⟩
end Go.Proofs.YtehnbalbpfmijaaGreatDoor

namespace Go.Proofs.YtehnbalbpfmijaaGreatDoor
open Go.RowKit
set_option linter.unusedVariables false

theorem neq_dom (a b : Int) (c : Bool) (x y : Int) (z : Bool) (W : World) : Sem.run Tryz.prog (binOp .neq 51 (.agg #[.int .i64 a, .int .i64 b, .bool c]) (.agg #[.int .i64 x, .int .i64 y, .bool z])) W = .ok (.bool (((a, b, c) : Lk) != (x, y, z))) W := by
  by_cases h1 : a = x
  · by_cases h2 : b = y
    · by_cases h3 : c = z
      · subst h1; subst h2; subst h3
        rw [show (((a, b, c) : Lk) != (a, b, c)) = false by simp]
        go_simp
      · rw [show (((a, b, c) : Lk) != (x, y, z)) = true by simp [h3]]
        go_simp
    · rw [show (((a, b, c) : Lk) != (x, y, z)) = true by simp [h2]]
      go_simp
  · rw [show (((a, b, c) : Lk) != (x, y, z)) = true by simp [h1]]
    go_simp
theorem litD {α : Type} {E : El α} (w : World) (cs : Array Value) (xs : List α) (n : Nat) (hn : n = xs.length) (hl : n ≤ maxLen) (hc : cs.toList = xs.flatMap E.f) (hE : ∀ x, (E.f x).length = E.s) : OwnF E (w.alloc (.cells cs E.e)) w.heap.size (.slice (some ⟨w.heap.size, 0, none⟩) n n) xs := by
  subst hn
  unfold OwnF
  rw [← hc]
  exact World.ownsRow_lit w cs xs.length (Nat.le_refl _) hl (by rw [← Array.length_toList, hc, flat_length hE])
/-- What is kept of the first k, behind the turned pair. -/
def flTo (ls : List Lk) (x y : Int) (d : Bool) (k : Nat) : List Lk := (quadL x y (!d)).1 :: (quadL x y (!d)).2 :: (ls.take k).filter fun l => l != (quadL x y d).1 && l != (quadL x y d).2
theorem flTo_step (ls : List Lk) (x y : Int) (d : Bool) (k : Nat) (h : k < ls.length) : flTo ls x y d (k + 1) = flTo ls x y d k ++ if dAt ls k != (x, y, d) && dAt ls k != (othX x d, othY y d, d) then [dAt ls k] else [] := by
  unfold flTo
  rw [(oth_quad x y d).1, (oth_quad x y d).2, take_get h, List.filter_append, List.cons_append, List.cons_append]
  congr 3
  rw [List.filter_cons, List.filter_nil]
theorem flTo_len (ls : List Lk) (x y : Int) (d : Bool) (k : Nat) : (flTo ls x y d k).length ≤ ls.length + 2 := by
  unfold flTo
  have h1 := List.length_filter_le (fun l => l != (quadL x y d).1 && l != (quadL x y d).2) (ls.take k)
  rw [List.length_take] at h1
  simp only [List.length_cons]
  omega

set_option maxRecDepth 100000 in
set_option maxHeartbeats 4000000 in
theorem FlipAt_yes (v : Value) (ls : List Lk) (x y : Int) (d : Bool) (B : Nat) (w : World) (h : RdF elDomino w B v ls) (hB : B ≤ w.heap.size) (hll : ls.length ≤ 1000) (hxr : 0 ≤ x ∧ x ≤ 6) (hyr : 0 ≤ y ∧ y ≤ 6) (hkd : kindZ ls x y = if d then 2 else 1) :
    Calls Tryz.prog 33 #[v, spotV x y] w fun e w' => ∃ u, e = .returned (.tuple #[u, .bool true]) ∧ OwnF elDomino w' w.heap.size u (sortI (flipL ls x y d) (flipL ls x y d).length) ∧ Below w.heap.size w w' := by
  have HKI := Lib.hid (fun V (hb : Below w.heap.size w V) => l11Kind_any v ls x y B V (h.below (hb.mono hB)) (Nat.le_trans hB hb.size))
  have HPR := Lib.hid (fun d V => l11Pair_yes x y d hxr hyr V)
  have HP1 := Lib.hid (HPR.out d)
  have HP2 := Lib.hid (HPR.out (!d))
  have HFE : Hid (flTo ls x y d ls.length = flipL ls x y d) := by unfold Hid flTo flipL; rw [List.take_length]
  have HST := Lib.hid (flTo_step ls x y d)
  have HSL := Lib.hid (flTo_len ls x y d)
  have HS0 : Hid (flTo ls x y d 0 = [(x, y, !d), (othX x (!d), othY y (!d), !d)]) := by unfold Hid flTo; rw [(oth_quad x y (!d)).1, (oth_quad x y (!d)).2]; rfl
  rw [← HFE.out]
  obtain ⟨st, HE⟩ : ∃ st, Hid (st = flTo ls x y d) := ⟨_, rfl⟩
  rw [← HE.out] at HST HSL HS0 ⊢
  obtain ⟨A, c, rfl, g1, g2, G3⟩ := RdT.of (E := elDomino) rfl (fun _ => rfl) h
  unfold maxLen at g2
  have hk0 : ((kindZ ls x y) == 0) = false := by rw [hkd]; cases d <;> rfl
  have hk1 : ((kindZ ls x y) == 1) = !d := by rw [hkd]; cases d <;> rfl
  have hk2 : ((kindZ ls x y) == 2) = d := by rw [hkd]; cases d <;> rfl
  clear hkd HFE HE HPR h
  generalize kindZ ls x y = q at *
  generalize othX x d = ex at *
  generalize othY y d = ey at *
  generalize othX x (!d) = vx at *
  generalize othY y (!d) = vy at *
  obtain ⟨nd, HND⟩ : ∃ nd, Hid ((!d) = nd) := ⟨_, rfl⟩
  rw [HND.out] at hk1 HP2 HS0
  obtain ⟨W, hW, kc, hb0⟩ := one_alloc w (.cells #[.int .i64 x, .int .i64 y] 44)
  have c0 : W.cell? ⟨w.heap.size, 0, none⟩ = some (.int .i64 x) := by rw [blk_cell kc]; rfl
  have c1 : W.cell? ⟨w.heap.size, 1, none⟩ = some (.int .i64 y) := by rw [blk_cell kc]; rfl
  have HKC := Lib.hid kc
  have HB0 := Lib.hid hb0
  clear HND
  go_enter Tryz.func33, Tryz.ntmps33
  go_upto_region 1 with (fail)
  rw [← hW]
  clear hW kc hb0
  go_wp2_with fail
  refine (HKI.out W HB0.out).mono ?_
  rintro e w1 ⟨rfl, hb1⟩
  have HB1 := Lib.hid (HB0.out.trans (hb1.mono HB0.out.size))
  have HKC1 := Lib.hid (blk_below HKC.out hb1)
  have d0 : w1.cell? ⟨w.heap.size, 0, none⟩ = some (.int .i64 x) := by rw [blk_cell HKC1.out]; rfl
  have d1 : w1.cell? ⟨w.heap.size, 1, none⟩ = some (.int .i64 y) := by rw [blk_cell HKC1.out]; rfl
  clear hb1 c0 c1
  go_wp2_with fail
  refine (HP1.out _).mono ?_
  rintro e w2 ⟨rfl, hb2⟩
  have HB2 := Lib.hid (HB1.out.trans (hb2.mono HB1.out.size))
  have HKC2 := Lib.hid (blk_below HKC1.out hb2)
  obtain ⟨V2, hV2, p1, p2, hbv2⟩ := two_alloc w2 (triO x y d 51) (triO ex ey d 51)
  have HBV2 := Lib.hid (HB2.out.trans (hbv2.mono HB2.out.size))
  have HKCV := Lib.hid (blk_below HKC2.out hbv2)
  have e0 : V2.cell? ⟨w.heap.size, 0, none⟩ = some (.int .i64 x) := by rw [blk_cell HKCV.out]; rfl
  have e1 : V2.cell? ⟨w.heap.size, 1, none⟩ = some (.int .i64 y) := by rw [blk_cell HKCV.out]; rfl
  have HD1 := Lib.hid p1; have HD2 := Lib.hid p2
  have HV2 := Lib.hid hV2
  rw [hV2] at e0 e1
  clear hV2 p1 p2 hbv2 hb2 d0 d1
  go_wp2_with fail
  rw [← HV2.out]
  clear e0 e1 HV2
  refine (HP2.out _).mono ?_
  rintro e w3 ⟨rfl, hb3⟩
  have HB3 := Lib.hid (HBV2.out.trans (hb3.mono HBV2.out.size))
  have HD13 := Lib.hid (blk_below HD1.out hb3); have HD23 := Lib.hid (blk_below HD2.out hb3)
  obtain ⟨V3, hV3, p1, p2, hbv3⟩ := two_alloc w3 (triO x y nd 51) (triO vx vy nd 51)
  have HBV3 := Lib.hid (HB3.out.trans (hbv3.mono HB3.out.size))
  have HD14 := Lib.hid (blk_below HD13.out hbv3); have HD24 := Lib.hid (blk_below HD23.out hbv3)
  obtain ⟨m0, m1, m2⟩ := tri_cells p1
  obtain ⟨n0, n1, n2⟩ := tri_cells p2
  have HV3 := Lib.hid hV3
  rw [hV3] at m0 m1 m2 n0 n1 n2
  obtain ⟨V4, hV4, p4, hbv4⟩ := one_alloc V3 (.cells #[.int .i64 x, .int .i64 y, .bool nd, .int .i64 vx, .int .i64 vy, .bool nd] 51)
  have HLIT : Hid (OwnF elDomino V4 w.heap.size (.slice (some ⟨V3.heap.size, 0, none⟩) 2 2) (st 0)) := by
    unfold Hid
    rw [HS0.out, hV4]
    exact (litD (E := elDomino) V3 #[.int .i64 x, .int .i64 y, .bool nd, .int .i64 vx, .int .i64 vy, .bool nd] [(x, y, nd), (vx, vy, nd)] 2 rfl (by unfold maxLen; omega) rfl (fun _ => rfl)).mono HBV3.out.size
  have HBV4 := Lib.hid (HBV3.out.trans (hbv4.mono HBV3.out.size))
  have HACC : Hid (Acc elDomino w w.heap.size V4 (.slice (some ⟨V3.heap.size, 0, none⟩) 2 2) (st 0)) := ⟨HLIT.out, HBV4.out, Nat.le_refl _, HBV4.out.size⟩
  have HD15 := Lib.hid (blk_below HD14.out hbv4); have HD25 := Lib.hid (blk_below HD24.out hbv4)
  have HV4 := Lib.hid hV4
  have HVS : Hid (V3.heap.size = w3.heap.size + 1 + 1) := by unfold Hid; rw [hV3]; simp
  rw [HVS.out] at HACC
  have HSEP : Hid (V3.heap.size ≠ w2.heap.size ∧ V3.heap.size ≠ w2.heap.size + 1) := by
    have h1 := lt_of_block HD14.out
    have h2 := lt_of_block HD24.out
    exact ⟨by omega, by omega⟩
  have HLT : Hid (w2.heap.size + 1 < V3.heap.size) := lt_of_block HD24.out
  clear hV3 hV4 p1 p2 p4 hbv3 hbv4 hb3
  go_wp2_with fail
  rw [← HV3.out, ← HV4.out]
  clear m0 m1 m2 n0 n1 n2 HV3 HV4
  go_loopw [11, 12] (fun o i wr => ∃ (k : Nat) (u : Value), k ≤ ls.length ∧ i = .int .i64 (k : Int) ∧ u = o ∧ Hid (Acc elDomino w w.heap.size wr u (st k)) ∧ Hid (wr.heap[w2.heap.size]? = some (triO x y d 51)) ∧ Hid (wr.heap[w2.heap.size + 1]? = some (triO ex ey d 51)) ∧ Hid (∀ g, u.ownBlock = some g → w2.heap.size + 1 < g)) (fun _ i _ => ls.length - (intOf i).toNat)
  case atStart => exact ⟨0, _, Nat.zero_le _, rfl, rfl, HACC, HD15, HD25, fun g hg => by simp only [Value.ownBlock, Option.some.injEq] at hg; have := HLT.out; have := HVS.out; omega⟩
  case round =>
    obtain ⟨k, u, hk, rfl, rfl, HA, HE1, HE2, HO⟩ := hrel
    obtain ⟨A1, ca, hv, q1, q2, _⟩ := HA.out.1.rd okDomino
    have hml := HSL.out k
    subst hv
    unfold maxLen at q2
    by_cases hlt : k < ls.length
    · have ht : decide ((k : Int) < (ls.length : Int)) = true := by simp only [decide_eq_true_eq]; omega
      obtain ⟨ad, rfl, had, hx, hy, hz⟩ := G3.out k hlt
      have hbw := HA.out.2.1
      have had2 : (ad.add (k * 3)).block < w.heap.size := by rw [addBlock]; omega
      have hx' := (hbw.cell (p := ad.add (k * 3)) had2).trans hx
      have hy' := (hbw.cell (p := ⟨(ad.add (k * 3)).block, (ad.add (k * 3)).off + 1, none⟩) had2).trans hy
      have hz' := (hbw.cell (p := ⟨(ad.add (k * 3)).block, (ad.add (k * 3)).off + 2, none⟩) had2).trans hz
      obtain ⟨m0, m1, m2⟩ := tri_cells HE1.out
      obtain ⟨n0, n1, n2⟩ := tri_cells HE2.out
      have hk0' : (0 : Int) ≤ (k : Int) := by omega
      have hk1' : (k : Int) < (ls.length : Int) := by omega
      have HSK := Lib.hid (HST.out k hlt)
      have HDD : Hid (dAt ls k = (lx ls k, ly ls k, ld ls k)) := rfl
      rw [HDD.out] at HSK
      clear hx hy hz hbw had2 HDD
      generalize lx ls k = r1 at *
      generalize ly ls k = r2 at *
      generalize ld ls k = r3 at *
      generalize st k = ys at *
      have hn1 := neq_dom r1 r2 r3 x y d
      have hn2 := neq_dom r1 r2 r3 ex ey d
      generalize hb1 : (((r1, r2, r3) : Lk) != (x, y, d)) = b1 at *
      generalize hb2 : (((r1, r2, r3) : Lk) != (ex, ey, d)) = b2 at *
      clear hb1 hb2
      cases b1
      · have HS2 : Hid (st (k + 1) = ys) := by unfold Hid; rw [HSK.out, Bool.false_and]; simp
        clear HSK
        go_wp2_with fail
        go_quiet (fail)
        have hbn : Below wr.heap.size wr (wr.drewN nq) := Drawn.below ⟨nq, rfl⟩ _
        go_wp2_with fail
        go_roundw
        case rel => exact ⟨k + 1, _, by omega, by go_num, rfl, by rw [HS2.out]; exact HA.out.below hbn, blk_below HE1.out hbn, blk_below HE2.out hbn, HO⟩
        case measure => simp [intOf]; omega
      · cases b2
        · have HS2 : Hid (st (k + 1) = ys) := by unfold Hid; rw [HSK.out, Bool.true_and]; simp
          clear HSK
          go_wp2_with fail
          go_quiet (fail)
          have hbn : Below wr.heap.size wr (wr.drewN nq) := Drawn.below ⟨nq, rfl⟩ _
          go_wp2_with fail
          go_roundw
          case rel => exact ⟨k + 1, _, by omega, by go_num, rfl, by rw [HS2.out]; exact HA.out.below hbn, blk_below HE1.out hbn, blk_below HE2.out hbn, HO⟩
          case measure => simp [intOf]; omega
        · have HS2 : Hid (st (k + 1) = ys ++ [(r1, r2, r3)]) := by unfold Hid; rw [HSK.out, Bool.true_and]; simp
          clear HSK
          go_wp2_with fail
          go_quiet (fail)
          have hbn : Below wr.heap.size wr (wr.drewN nq) := Drawn.below ⟨nq, rfl⟩ _
          have HAN := Lib.hid (HA.out.below hbn)
          have HEN1 := Lib.hid (blk_below HE1.out hbn); have HEN2 := Lib.hid (blk_below HE2.out hbn)
          go_wp2_with (at_builtin; refine wpList_push okDomino rfl _ _ rfl HAN.out rfl (r1, r2, r3) _ rfl _ rfl rfl (by omega) ?_; intro v10 w10 HA10 HG10)
          have hs10 := lt_of_block HEN2.out
          have hh1 := HG10.out.1.block w2.heap.size (by omega) (fun e => by have := HO.out _ e.symm; omega)
          have hh2 := HG10.out.1.block (w2.heap.size + 1) (by omega) (fun e => by have := HO.out _ e.symm; omega)
          obtain ⟨g10, hg10, hg11, _⟩ := HG10.out.2
          go_roundw
          case rel =>
            refine ⟨k + 1, _, by omega, by go_num, rfl, by rw [HS2.out]; exact HA10, hh1.trans HEN1.out, hh2.trans HEN2.out, fun g hg => ?_⟩
            rw [hg10] at hg
            obtain rfl := Option.some.inj hg
            rcases hg11 with e | e
            · exact HO.out _ e
            · omega
          case measure => simp [intOf]; omega
    · obtain rfl : k = ls.length := by omega
      have ht : decide ((ls.length : Int) < (ls.length : Int)) = false := by simp
      have HRD := Lib.hid (HA.out.1.rd okDomino)
      have HBA := Lib.hid HA.out.2.1
      go_wp2_with fail
      refine (specSortDominoes_any _ (st ls.length) _ _ HRD.out (Nat.le_refl _)).mono ?_
      rintro e w9 ⟨u9, rfl, ho9, hb9⟩
      have HO9 := Lib.hid (ho9.mono HBA.out.size)
      have HB9 := Lib.hid (HBA.out.trans (hb9.mono HBA.out.size))
      obtain ⟨A9, c9, hv9, _, _, _⟩ := ho9.rd okDomino
      subst hv9
      clear ho9 hb9
      go_wp2_with fail
      refine bodyPost_ret (v := .tuple #[.slice A9 (sortI (st ls.length) (st ls.length).length).length c9, .bool true]) (by simp [results, Tryz.results33, go_sem]) rfl ⟨_, rfl, HO9.out, HB9.out⟩
end Go.Proofs.YtehnbalbpfmijaaGreatDoor

namespace Go.Proofs.YtehnbalbpfmijaaGreatDoor
open Go.RowKit

theorem acc0 {α : Type} {E : El α} {wr : World} {lo : Nat} {v : Value} {xs : List α} (h : OwnF E wr lo v xs) (hl : lo ≤ wr.heap.size) : Acc E { wr with heap := #[] } lo wr v xs :=
  ⟨h, ⟨rfl, rfl, rfl, Nat.zero_le _, fun _ hk => absurd hk (Nat.not_lt_zero _)⟩, Nat.zero_le _, hl⟩
theorem acc0I {wr : World} {lo : Nat} {v : Value} {xs : List Int} (h : OwnI wr lo v xs) (hl : lo ≤ wr.heap.size) : Acc elInt { wr with heap := #[] } lo wr v xs := acc0 (ownF_int.2 h) hl
/-- Only row, of what w had, is written: it stays so where what is younger than w grows. -/
theorem grownBy_more {w wr w' : World} {row row' : Option Nat} (h : w.grownBy wr row) (hg : wr.grownBy w' row') (hr : ∀ k, row' = some k → w.heap.size ≤ k ∨ row = some k) : w.grownBy w' row :=
  ⟨hg.os.trans h.os, hg.tape.trans h.tape, hg.output.trans h.output, Nat.le_trans h.size hg.size, fun k hk hne => (hg.block k (Nat.lt_of_lt_of_le hk h.size) (fun e => by
    rcases hr k e.symm with h1 | h1
    · omega
    · exact hne h1.symm)).trans (h.block k hk hne)⟩
theorem grownBy_below {w wr w' : World} {row : Option Nat} (h : w.grownBy wr row) (hb : Below wr.heap.size wr w') : w.grownBy w' row :=
  grownBy_more h (row' := none) ⟨hb.os, hb.tape, hb.output, hb.size, fun k hk _ => hb.block k hk⟩ (fun k e => by simp at e)
theorem grownBy_alloc (w : World) (o : Obj) (row : Option Nat) : w.grownBy (w.alloc o) row := ⟨rfl, rfl, rfl, by simp, fun _ hk _ => Below.heap_alloc _ _ _ hk⟩
/-- A young row written: below the old heap nothing turns. -/
theorem below_young {w0 w w' : World} {q : Nat} (hb : Below w0.heap.size w0 w) (hg : w.grownBy w' (some q)) (hq : w0.heap.size ≤ q) : Below w0.heap.size w0 w' :=
  hb.grown hg hb.size fun k hk => by simp at hk; omega
end Go.Proofs.YtehnbalbpfmijaaGreatDoor

namespace Go.Proofs.YtehnbalbpfmijaaGreatDoor
open Go.RowKit

/-- v is a slice of n bytes. -/
def RdU (w : World) (B : Nat) (v : Value) (n : Nat) : Prop := ∃ A c, v = .slice A n c ∧ n ≤ c ∧ c ≤ maxLen ∧ ∀ j, j < n → ∃ ad z, A = some ad ∧ ad.block < B ∧ 0 ≤ z ∧ z ≤ 255 ∧ w.cell? (ad.add j) = some (.int .u8 z)
theorem RdU.keep {w w' : World} {B : Nat} {v : Value} {n : Nat} (h : RdU w B v n) (hk : ∀ p : Addr, p.block < B → w'.cell? p = w.cell? p) : RdU w' B v n := by
  obtain ⟨A, c, e, h1, h2, h3⟩ := h
  refine ⟨A, c, e, h1, h2, fun j hj => ?_⟩
  obtain ⟨ad, z, e2, hb, z0, z1, hc⟩ := h3 j hj
  exact ⟨ad, z, e2, hb, z0, z1, (hk _ (by rw [addBlock]; exact hb)).trans hc⟩
theorem RdU.below {w w' : World} {B : Nat} {v : Value} {n : Nat} (h : RdU w B v n) (hb : Below B w w') : RdU w' B v n := h.keep fun _ hp => hb.cell hp
theorem RdU.more {w : World} {B B' : Nat} {v : Value} {n : Nat} (h : RdU w B v n) (hB : B ≤ B') : RdU w B' v n := by
  obtain ⟨A, c, e, h1, h2, h3⟩ := h
  refine ⟨A, c, e, h1, h2, fun j hj => ?_⟩
  obtain ⟨ad, z, e2, hb, r⟩ := h3 j hj
  exact ⟨ad, z, e2, by omega, r⟩

/-- Block q is a cursor over the n bytes of v. -/
def Cur (w : World) (q : Nat) (v : Value) (n : Nat) : Prop := ∃ (i : Nat) (h : Int), i ≤ n ∧ w.heap[q]? = some (.cells #[v, .int .i64 i, .int .i64 h] 61 (0, 0)) ∧ RdU w q v n
theorem Cur.lt {w : World} {q : Nat} {v : Value} {n : Nat} (h : Cur w q v n) : q < w.heap.size := by obtain ⟨_, _, _, h, _⟩ := h; exact lt_of_block h
/-- The cursor stays where neither it nor its bytes are written. -/
theorem Cur.grown {w w' : World} {q : Nat} {v : Value} {n : Nat} {row : Option Nat} (h : Cur w q v n) (hg : w.grownBy w' row) (hr : ∀ k, row = some k → q < k) : Cur w' q v n := by
  have hq := h.lt
  obtain ⟨i, x, hi, hb, hr2⟩ := h
  have hk : ∀ k, k ≤ q → w'.heap[k]? = w.heap[k]? := fun k hk => hg.block k (by omega) (fun e => by have := hr k e.symm; omega)
  exact ⟨i, x, hi, by rw [hk q (Nat.le_refl _)]; exact hb, hr2.keep fun p hp => World.cell?_of_block (hk _ (by omega))⟩
theorem Cur.below {w w' : World} {q : Nat} {v : Value} {n : Nat} (h : Cur w q v n) (hb : Below w.heap.size w w') : Cur w' q v n :=
  h.grown (row := none) ⟨hb.os, hb.tape, hb.output, hb.size, fun k hk _ => hb.block k hk⟩ fun k e => by simp at e

/-- A draw: some number r with P r comes back; the cursor's block alone is written. -/
def Draw (P : Int → Prop) (w : World) (q : Nat) (v : Value) (n : Nat) (e : Ending) (w' : World) : Prop := ∃ r, P r ∧ e = .returned (.int .i64 r) ∧ Cur w' q v n ∧ w.grownBy w' (some q)

theorem and255 (n : Int) : bits .and .i64 n 255 = n % 256 := by
  have h127 : (BitVec.ofInt 64 255).toNat = 2 ^ 8 - 1 := by decide
  have key : (BitVec.ofInt 64 n &&& BitVec.ofInt 64 255).toNat = (n % ((2 ^ 64 : Nat) : Int)).toNat % 2 ^ 8 := by
    rw [BitVec.toNat_and, BitVec.toNat_ofInt, h127, Nat.and_two_pow_sub_one_eq_mod]
  show IntKind.i64.wrap ((BitVec.ofInt 64 n &&& BitVec.ofInt 64 255).toNat : Nat) = n % 256
  rw [key, IntKind.wrap_i64]
  omega
def and255Z (n : Int) : Int := bits .and .i64 n 255
theorem and255Z_bd (n : Int) : 0 ≤ and255Z n ∧ and255Z n ≤ 255 := by unfold and255Z; rw [and255]; omega

set_option maxHeartbeats 1000000 in
theorem byte_any (q n : Nat) (v : Value) (w : World) (hc : Cur w q v n) :
    Calls Tryz.prog 56 #[.pointer (some ⟨q, 0, none⟩)] w (Draw (fun r => 0 ≤ r ∧ r ≤ 255) w q v n) := by
  obtain ⟨i, h, hi, hb, A, c, rfl, h1, h2, h3⟩ := hc
  unfold maxLen at h2
  have hsh1 : ∀ (W : World) (x : Int), Sem.run Tryz.prog (Op.shift BinOp.shr IntKind.i64 x IntKind.u64 33) W = .ok (.int .i64 (x / 8589934592)) W := fun W x => by rw [shift_shr _ _ _ _ (by omega) (by decide)]; rfl
  have hsh2 : ∀ (W : World) (x : Int), Sem.run Tryz.prog (Op.shift BinOp.shr IntKind.i64 x IntKind.u64 45) W = .ok (.int .i64 (x / 35184372088832)) W := fun W x => by rw [shift_shr _ _ _ _ (by omega) (by decide)]; rfl
  have c0 : w.cell? ⟨q, 0, none⟩ = some (.slice A n c) := by rw [blk_cell hb]; rfl
  have c1 : w.cell? ⟨q, 1, none⟩ = some (.int .i64 i) := by rw [blk_cell hb]; rfl
  have c2 : w.cell? ⟨q, 2, none⟩ = some (.int .i64 h) := by rw [blk_cell hb]; rfl
  have f1 : w.frozen? ⟨q, 1, none⟩ = false := blk_free hb
  have f2 : w.frozen? ⟨q, 2, none⟩ = false := blk_free hb
  by_cases hlt : i < n
  · obtain ⟨ad, z, rfl, hbl, z0, z1, hz⟩ := h3 i hlt
    have hi0 : (0 : Int) ≤ (i : Int) := by omega
    have hi1 : (i : Int) < (n : Int) := by omega
    go_enter Tryz.func56, Tryz.ntmps56
    go_wp2_with fail
    have hb1 := blk_setCell (k := 2) hb (.int .i64 (wrap64 (wrap64 (h * 6364136223846793005) + 1442695040888963407)))
    have hg1 := grownBy_set w q 2 (.int .i64 (wrap64 (wrap64 (h * 6364136223846793005) + 1442695040888963407)))
    have hz1 : (w.setCell ⟨q, 2, none⟩ (.int .i64 (wrap64 (wrap64 (h * 6364136223846793005) + 1442695040888963407)))).cell? (ad.add i) = some (.int .u8 z) :=
      (World.cell?_of_block (Below.heap_setCell _ _ _ _ (by rw [addBlock]; simp; omega))).trans hz
    generalize wrap64 (wrap64 (h * 6364136223846793005) + 1442695040888963407) = h' at *
    generalize w.setCell ⟨q, 2, none⟩ (.int .i64 h') = W at *
    have c0' : W.cell? ⟨q, 0, none⟩ = some (.slice (some ad) n c) := by rw [blk_cell hb1]; rfl
    have c1' : W.cell? ⟨q, 1, none⟩ = some (.int .i64 i) := by rw [blk_cell hb1]; rfl
    have c2' : W.cell? ⟨q, 2, none⟩ = some (.int .i64 h') := by rw [blk_cell hb1]; rfl
    have f1' : W.frozen? ⟨q, 1, none⟩ = false := blk_free hb1
    clear c0 c1 c2 f1 f2
    go_quiet (fail)
    go_wp2_with fail
    go_quiet (fail)
    go_wp2_with fail
    go_quiet (fail)
    go_wp2_with fail
    go_ret
    have hR : RdU w q (.slice (some ad) n c) n := ⟨some ad, c, rfl, h1, by unfold maxLen; omega, h3⟩
    refine ⟨_, and255Z_bd _, rfl, ⟨i + 1, h', by omega, ?_, ?_⟩, ?_⟩
    · exact (blk_setCell (w := W) hb1 (.int .i64 ((i : Int) + 1))).trans (by simp)
    · exact hR.keep fun p hp => (World.cell?_of_block (Below.heap_setCell _ _ _ _ (by simp; omega))).trans (World.cell?_of_block (hg1.block _ (by have := lt_of_block hb; omega) (fun e => by simp at e; omega)))
    · exact hg1.trans ((grownBy_drewN W _ _).trans (grownBy_set _ q 1 (.int .i64 ((i : Int) + 1))))
  · have hi1 : ¬ (i : Int) < (n : Int) := by omega
    go_enter Tryz.func56, Tryz.ntmps56
    go_wp2_with fail
    have hb1 := blk_setCell (k := 2) hb (.int .i64 (wrap64 (wrap64 (h * 6364136223846793005) + 1442695040888963407)))
    have hg1 := grownBy_set w q 2 (.int .i64 (wrap64 (wrap64 (h * 6364136223846793005) + 1442695040888963407)))
    generalize wrap64 (wrap64 (h * 6364136223846793005) + 1442695040888963407) = h' at *
    generalize w.setCell ⟨q, 2, none⟩ (.int .i64 h') = W at *
    have c0' : W.cell? ⟨q, 0, none⟩ = some (.slice A n c) := by rw [blk_cell hb1]; rfl
    have c1' : W.cell? ⟨q, 1, none⟩ = some (.int .i64 i) := by rw [blk_cell hb1]; rfl
    have c2' : W.cell? ⟨q, 2, none⟩ = some (.int .i64 h') := by rw [blk_cell hb1]; rfl
    clear c0 c1 c2 f1 f2
    go_quiet (fail)
    go_wp2_with fail
    go_quiet (fail)
    go_wp2_with fail
    go_ret
    have hR : RdU w q (.slice A n c) n := ⟨A, c, rfl, h1, by unfold maxLen; omega, h3⟩
    refine ⟨_, and255Z_bd _, rfl, ⟨i, h', by omega, ?_, ?_⟩, ?_⟩
    · exact hb1
    · exact hR.keep fun p hp => World.cell?_of_block (hg1.block _ (by have := lt_of_block hb; omega) (fun e => by simp at e; omega))
    · exact hg1.trans ((grownBy_drewN W _ _).trans (grownBy_drewN _ _ _))

set_option maxHeartbeats 1000000 in
theorem below_any (q n : Nat) (v : Value) (m : Int) (w : World) (hc : Cur w q v n) (h1 : 1 ≤ m) (h2 : m ≤ 256) :
    Calls Tryz.prog 30 #[.pointer (some ⟨q, 0, none⟩), .int .i64 m] w (Draw (fun r => 0 ≤ r ∧ r < m) w q v n) := by
  go_enter Tryz.func30, Tryz.ntmps30
  go_wp2_with fail
  refine (byte_any q n v w hc).mono ?_
  rintro e w1 ⟨r, ⟨h3, h4⟩, rfl, hc1, hg1⟩
  go_wp2_with fail
  go_ret
  exact ⟨r % m, ⟨Int.emod_nonneg _ (by omega), Int.emod_lt_of_pos _ (by omega)⟩, ret_int (by first | rfl | omega), hc1, hg1⟩

/-- A new cursor. -/
def NewCur (w : World) (v : Value) (n : Nat) (e : Ending) (w' : World) : Prop := e = .returned (.pointer (some ⟨w.heap.size, 0, none⟩)) ∧ Cur w' w.heap.size v n ∧ Below w.heap.size w w'
set_option maxHeartbeats 1000000 in
theorem new_any (v : Value) (n B : Nat) (w : World) (hv : RdU w B v n) (hB : B ≤ w.heap.size) :
    Calls Tryz.prog 16 #[v] w (NewCur w v n) := by
  have HV := Lib.hid (hv.more hB)
  obtain ⟨A, c, rfl, h1, h2, h3⟩ := hv
  unfold maxLen at h2
  go_enter Tryz.func16, Tryz.ntmps16
  go_wp2_with fail
  go_loop [3, 4] (fun h i => ∃ (k : Nat) (x : Int), k ≤ n ∧ k ≤ 4000 ∧ i = .int .i64 k ∧ h = .int .i64 x) (fun _ i => n - (intOf i).toNat)
  case atStart => exact ⟨0, _, by omega, by omega, rfl, rfl⟩
  case round =>
    obtain ⟨k, x, hk, hk2, rfl, rfl⟩ := hrel
    by_cases hlt : k < n
    · by_cases hlt2 : k < 4000
      · obtain ⟨ad, z, rfl, hbl, z0, z1, hz⟩ := h3 k hlt
        have b1 : decide ((k : Int) < (n : Int)) = true := by simp; omega
        have b2 : decide ((k : Int) < 4000) = true := by simp; omega
        go_wp2_with fail
        go_round
        case rel => exact ⟨k + 1, _, by omega, by omega, by go_num, rfl⟩
        case measure => simp [intOf]; omega
      · have b1 : decide ((k : Int) < (n : Int)) = true := by simp; omega
        have b2 : decide ((k : Int) < 4000) = false := by simp; omega
        go_wp2_with fail
        go_ret
        refine ⟨rfl, ⟨0, x, by omega, ?_, (HV.out.below ((Below.refl _ _).alloc (Nat.le_refl _) _))⟩, (Below.refl _ _).alloc (Nat.le_refl _) _⟩
        exact heap_alloc_new w _
    · have b1 : decide ((k : Int) < (n : Int)) = false := by simp; omega
      go_wp2_with fail
      go_ret
      refine ⟨rfl, ⟨0, x, by omega, ?_, (HV.out.below ((Below.refl _ _).alloc (Nat.le_refl _) _))⟩, (Below.refl _ _).alloc (Nat.le_refl _) _⟩
      exact heap_alloc_new w _
end Go.Proofs.YtehnbalbpfmijaaGreatDoor

namespace Go.Proofs.YtehnbalbpfmijaaGreatDoor
open Go.RowKit
set_option linter.unusedVariables false

theorem flips_neS {R : Nat} {ls : List Lk} (hk : chkF 40 R [] = true) (h : Til R ls) : 0 < (flipsZ ls).length ∧ (flipsZ ls).length ≤ 64 := by
  refine ⟨?_, flipsTo_len ls 64⟩
  obtain ⟨l, h1, h2⟩ := flip_some hk h
  obtain ⟨p1, p2, p3, p4⟩ := prt_quad (h.so.2 _ h1) (h.so.2 _ h2)
  obtain ⟨x, y, d⟩ := l
  obtain ⟨m, rfl⟩ := Int.eq_ofNat_of_zero_le p1.1
  obtain ⟨k, rfl⟩ := Int.eq_ofNat_of_zero_le p2.1
  have hi : inF (m : Int) (k : Int) = true := by
    unfold inF; rw [Bool.and_eq_true, inB_iff, inB_iff]
    have a := p1.2; have b := p2.2
    dsimp only at a b
    omega
  have hp := kind_of (ls := ls) hi d (by have := p3; dsimp only at this; rw [this]; exact h1) (by have := p4; dsimp only at this; rw [this]; exact h2)
  have a := p1.2; have b := p2.2
  dsimp only at a b
  refine flipsTo_has ls (k * 8 + m) ?_ 64 (by omega)
  rw [show (k * 8 + m) % 8 = m by omega, show (k * 8 + m) / 8 = k by omega]
  exact hp
theorem flips_atS {R : Nat} {ls : List Lk} (h : Til R ls) {c : Int × Int} (hc : c ∈ flipsZ ls) : (0 ≤ c.1 ∧ c.1 ≤ 6) ∧ (0 ≤ c.2 ∧ c.2 ≤ 6) ∧ ∃ d, kindZ ls c.1 c.2 = (if d then 2 else 1) ∧ Til R (sortI (flipL ls c.1 c.2 d) (flipL ls c.1 c.2 d).length) := by
  obtain ⟨⟨h1, h2⟩, d, h3, h4, h5⟩ := kind_pos (flipsTo_mem ls 64 c hc)
  exact ⟨h1, h2, d, h3, flip_til h h1 h2 h4 h5⟩
theorem til_fewS {R : Nat} {ls : List Lk} (h : Til R ls) : ls.length ≤ 32 := by
  have h1 := til_of h
  unfold sTileB at h1
  rw [Bool.and_eq_true, decide_eq_true_eq] at h1
  have := cntB_le R 64
  omega

theorem fst_sq_tab : (sizes.all fun s => !(rectZ s s).isEmpty && regOkB (rectZ s s) && (decide (nCell (setZ (rectZ s s)) 64 ≤ 37) && wayB (setZ (rectZ s s)) 64 0 0) && chkR (s * s / 2) (rectZ s s) && sTileB (sqR s) (fstL (s * s / 2) (rectZ s s)) && decide (s * s / 2 ≤ 32)) = true := by decide +kernel
theorem fst_sq {s : Nat} (hs : s = 2 ∨ s = 4 ∨ s = 6) : rectZ s s ≠ [] ∧ regOkB (rectZ s s) = true ∧ profZ (setZ (rectZ s s)) ≠ 0 ∧ chkR (s * s / 2) (rectZ s s) = true ∧ Til (sqR s) (fstL (s * s / 2) (rectZ s s)) ∧ s * s / 2 ≤ 32 := by
  have h := List.all_eq_true.1 fst_sq_tab s (mem_sizes hs)
  rw [Bool.and_eq_true, Bool.and_eq_true, Bool.and_eq_true, Bool.and_eq_true, Bool.and_eq_true, decide_eq_true_eq] at h
  obtain ⟨⟨⟨⟨⟨a, b⟩, c⟩, d⟩, e⟩, f⟩ := h
  exact ⟨by intro h0; rw [h0] at a; simp at a, b, way_some c, d, til_to (sq_lt hs) e, f⟩

def SqDraw (w : World) (q : Nat) (v : Value) (n : Nat) (e : Ending) (w' : World) : Prop :=
  ∃ (s : Nat) (ls : List Lk) (u : Value), (s = 2 ∨ s = 4 ∨ s = 6) ∧ Til (sqR s) ls ∧ e = .returned (.tuple #[.int .i64 (s : Int), u]) ∧ OwnF elDomino w' w.heap.size u ls ∧ Cur w' q v n ∧ w.grownBy w' (some q)

set_option maxRecDepth 100000 in
set_option maxHeartbeats 2000000 in
theorem l19Tiling_any (q n : Nat) (v : Value) (w : World) (hc : Cur w q v n) :
    Calls Tryz.prog 15 #[.pointer (some ⟨q, 0, none⟩)] w (SqDraw w q v n) := by
  have HQ := Lib.hid hc.lt
  go_enter Tryz.func15, Tryz.ntmps15
  go_wp2_with fail
  refine (below_any q n v 3 w hc (by omega) (by omega)).mono ?_
  rintro e w1 ⟨r1, ⟨r10, r11⟩, rfl, hc1, hg1⟩
  have HC1 := Lib.hid hc1
  have HG1 := Lib.hid hg1
  obtain ⟨s, hs⟩ : ∃ s : Nat, 2 * (1 + r1) = (s : Int) := ⟨(2 * (1 + r1)).toNat, by omega⟩
  have hcond : s = 2 ∨ s = 4 ∨ s = 6 := by omega
  have hs1 : IntKind.i64.wrap (1 + r1) = 1 + r1 := IntWalk.i64_in _ (by omega)
  have hs2 : IntKind.i64.wrap (2 * (1 + r1)) = (s : Int) := by rw [IntWalk.i64_in _ (by omega)]; exact hs
  obtain ⟨hzne, hzok, hzp, hzc, htil, hnn⟩ := fst_sq hcond
  have hck : chkF 40 (sqR s) [] = true := List.all_eq_true.1 flips_tab s (mem_sizes hcond)
  have HRC := Lib.hid (specRectangle_yes s s (by omega) (by omega))
  clear hc hc1 hg1
  go_wp2_with fail
  try rw [hs]
  refine (HRC.out _).mono ?_
  rintro e w2 ⟨u2, rfl, hr2, hb2⟩
  have HB2 := Lib.hid hb2
  have HC2 := Lib.hid (HC1.out.below hb2)
  have HG2 := Lib.hid (grownBy_below HG1.out hb2)
  have HFST := Lib.hid (FirstTiling_yes u2 (rectZ s s) _ w2 hr2 (Nat.le_refl _) hzne (s * s / 2) hnn hzok hzp hzc)
  have HTIL0 : Hid (Til (sqR s) (fstL (s * s / 2) (rectZ s s))) := htil
  have HCK : Hid (chkF 40 (sqR s) [] = true) := hck
  have HCO : Hid ((s = 2 ∨ s = 4 ∨ s = 6)) := hcond
  obtain ⟨A2, c2, rfl, _, _, _⟩ := hr2
  clear hb2 hzne hzok hzp hzc htil hck hcond
  generalize fstL (s * s / 2) (rectZ s s) = l0 at *
  clear hnn
  go_wp2_with fail
  refine HFST.out.mono ?_
  rintro e w3 ⟨u3, rfl, ho3, hb3⟩
  have HC3 := Lib.hid (HC2.out.below hb3)
  have HG3 := Lib.hid (grownBy_below HG2.out hb3)
  have HO3 := Lib.hid (ho3.mono HG2.out.size)
  obtain ⟨A3, c3, rfl, _, _, _⟩ := ho3.rd okDomino
  clear ho3 hb3 HFST
  go_wp2_with fail
  refine (below_any q n v 12 w3 HC3.out (by omega) (by omega)).mono ?_
  rintro e w4 ⟨r4, ⟨r40, r41⟩, rfl, hc4, hg4⟩
  have HC4 := Lib.hid hc4
  have HG4 := Lib.hid (HG3.out.trans hg4)
  have HO4 := Lib.hid (HO3.out.kept hg4 fun k hk e => by have h1 := (HO3.out.lt k hk).1; have h2 := HQ.out; simp only [Option.some.injEq] at e; omega)
  clear hc4 hg4
  obtain ⟨k4, rfl⟩ := Int.eq_ofNat_of_zero_le r40
  go_wp2_with fail
  go_loopw [5, 7] (fun l i wr => ∃ (k : Nat) (ls : List Lk) (u : Value), k ≤ 20 ∧ i = .int .i64 (k : Int) ∧ u = l ∧ Hid (Til (sqR s) ls) ∧ Hid (OwnF elDomino wr w.heap.size u ls) ∧ Hid (Cur wr q v n) ∧ Hid (w.grownBy wr (some q))) (fun _ i _ => (intOf i).toNat)
  case atStart => exact ⟨k4, _, _, by omega, rfl, rfl, HTIL0, HO4, HC4, HG4⟩
  case round =>
    obtain ⟨k, ls, u, hk, rfl, rfl, HT, HO, HC, HG⟩ := hrel
    obtain ⟨Au, cu, rfl, q1, q2, _⟩ := HO.out.rd okDomino
    unfold maxLen at q2
    by_cases hk0 : 0 < k
    · have ht : decide (0 < k) = true := by rw [decide_eq_true_eq]; exact hk0
      have hti : decide ((0 : Int) < (k : Int)) = true := by rw [decide_eq_true_eq]; omega
      have HFO := Lib.hid (FlipsOf_any _ ls _ wr (HO.out.rd okDomino) (Nat.le_refl _))
      obtain ⟨hf0, hf64⟩ := flips_neS HCK.out HT.out
      have HFA := Lib.hid (fun c hc => flips_atS HT.out (c := c) hc)
      have hlen := til_fewS HT.out
      generalize flipsZ ls = fs at *
      go_wp2_with fail
      refine HFO.out.mono ?_
      rintro e w5 ⟨u5, rfl, ho5, hb5⟩
      have HC5 := Lib.hid (HC.out.below hb5)
      have HG5 := Lib.hid (grownBy_below HG.out hb5)
      have HO5 := Lib.hid (HO.out.below hb5)
      have HF5 := Lib.hid ho5
      obtain ⟨A5, c5, hv5, q3, q4, _⟩ := ho5.rd okCell
      subst hv5
      unfold maxLen at q4
      have HSW : Hid (w.heap.size ≤ wr.heap.size) := HG.out.size
      clear ho5 hb5 HFO
      go_wp2_with fail
      refine (below_any q n v (fs.length : Int) w5 HC5.out (by omega) (by omega)).mono ?_
      rintro e w6 ⟨r6, ⟨r60, r61⟩, rfl, hc6, hg6⟩
      have HC6 := Lib.hid hc6
      have HG6 := Lib.hid (HG5.out.trans hg6)
      have HO6 := Lib.hid (HO5.out.kept hg6 fun k hk e => by have h1 := (HO5.out.lt k hk).1; have h2 := HQ.out; simp only [Option.some.injEq] at e; omega)
      have HF6 := Lib.hid (HF5.out.kept hg6 fun k hk e => by have h1 := (HF5.out.lt k hk).1; have h2 := HQ.out; have h3 := HSW.out; simp only [Option.some.injEq] at e; omega)
      clear hc6 hg6
      obtain ⟨j, rfl⟩ := Int.eq_ofNat_of_zero_le r60
      have hj : j < fs.length := by omega
      obtain ⟨A9, c9, he, _, _, G9⟩ := RdD.of (E := elCell) rfl (fun _ => rfl) (HF6.out.rd okCell)
      simp only [Value.slice.injEq, true_and] at he
      obtain ⟨rfl, rfl⟩ := he
      obtain ⟨ad, rfl, hbl, hcx, hcy⟩ := G9.out j hj
      have hmem : (dx fs j, dy fs j) ∈ fs := by
        have : (dx fs j, dy fs j) = fs[j] := by simp [dx, dy, hj]
        rw [this]; exact List.getElem_mem hj
      obtain ⟨hx6, hy6, d, hkd, htn⟩ := HFA.out _ hmem
      dsimp only at hx6 hy6 hkd htn
      generalize dx fs j = x at *
      generalize dy fs j = y at *
      have HTN := Lib.hid htn
      have HFL := Lib.hid (FlipAt_yes _ ls x y d _ w6 (HO6.out.rd okDomino) (Nat.le_refl _) (by omega) hx6 hy6 hkd)
      have hj0 : (0 : Int) ≤ (j : Int) := by omega
      have hj1 : (j : Int) < (fs.length : Int) := by omega
      have HSW6 : Hid (w.heap.size ≤ w6.heap.size) := HG6.out.size
      clear htn hkd hmem G9 hbl
      generalize sortI (flipL ls x y d) (flipL ls x y d).length = l7 at *
      go_wp2_with fail
      refine HFL.out.mono ?_
      rintro e w7 ⟨u7, rfl, ho7, hb7⟩
      have HC7 := Lib.hid (HC6.out.below hb7)
      have HG7 := Lib.hid (grownBy_below HG6.out hb7)
      have HO7 := Lib.hid (ho7.mono HSW6.out)
      obtain ⟨A7, c7, rfl, _, _, _⟩ := ho7.rd okDomino
      have hw1 : IntKind.i64.wrap ((k : Int) - 1) = ((k - 1 : Nat) : Int) := by rw [IntWalk.i64_in _ (by omega)]; omega
      have hw2 : (k : Int) - 1 = ((k - 1 : Nat) : Int) := by omega
      clear ho7 hb7 HFL
      go_wp2_with fail
      go_roundw
      case rel => exact ⟨k - 1, _, _, by omega, (by first | rfl | (simp [hw2])), rfl, HTN, HO7, HC7, HG7⟩
      case measure => simp [intOf]; omega
    · obtain rfl : k = 0 := by omega
      go_wp2_with fail
      refine bodyPost_ret (v := .tuple #[.int .i64 (s : Int), .slice Au ls.length cu]) (by simp [results, Tryz.results15, go_sem]) rfl ⟨s, ls, _, HCO.out, HT.out, rfl, HO.out, HC.out, HG.out⟩
end Go.Proofs.YtehnbalbpfmijaaGreatDoor

namespace Go.Proofs.YtehnbalbpfmijaaGreatDoor
open Go.RowKit
set_option linter.unusedVariables false

/-- A drawn tiling of a square. -/
def SqRetY (w : World) (e : Ending) (w' : World) : Prop :=
  ∃ (s : Nat) (ls : List Lk) (u : Value), (s = 2 ∨ s = 4 ∨ s = 6) ∧ Til (sqR s) ls ∧ e = .returned (.tuple #[.int .i64 (s : Int), u]) ∧ OwnF elDomino w' w.heap.size u ls ∧ Below w.heap.size w w'
theorem DrawSqY_any (v : Value) (n B : Nat) (w : World) (hv : RdU w B v n) (hB : B ≤ w.heap.size) :
    Calls Tryz.prog 5 #[v] w (SqRetY w) := by
  go_enter Tryz.func5, Tryz.ntmps5
  go_wp2_with fail
  refine (new_any v n B w hv hB).mono ?_
  rintro e w1 ⟨rfl, hc1, hb1⟩
  go_wp2_with fail
  refine (l19Tiling_any _ n v w1 hc1).mono ?_
  rintro e w2 ⟨s, ls, u, hs, ht, rfl, ho, hc2, hg2⟩
  have HO := Lib.hid (ho.mono hb1.size)
  have HB := Lib.hid (below_young hb1 hg2 (Nat.le_refl _))
  obtain ⟨A, c, rfl, _, _, _⟩ := ho.rd okDomino
  have HS := Lib.hid hs
  clear hs ho hg2 hc2 hc1 hb1
  go_wp2_with fail
  refine bodyPost_ret (v := .tuple #[.int .i64 (s : Int), .slice A ls.length c]) (by simp [results, Tryz.results5, go_sem]) rfl ⟨s, ls, _, HS.out, ht, rfl, HO.out, HB.out⟩

set_option maxRecDepth 100000 in
theorem specRectangleCount_sq (s : Nat) (h1 : 1 ≤ s ∧ s ≤ 8) (w : World) :
    Calls Tryz.prog 13 #[.int .i64 (s : Int), .int .i64 (s : Int)] w fun e w' => e = .returned (.int .i64 (profZ (setZ (rectZ s s)))) ∧ Below w.heap.size w w' := by
  have t1 : inB (s : Int) 1 8 = true := inB_true (by omega) (by omega)
  have HRC := Lib.hid (specRectangle_yes s s h1 h1)
  have hok := rectZ_ok s s h1.2 h1.2
  have HLC := Lib.hid (fun v B w hr hB => l07Count_yes v (rectZ s s) B w hr hB hok)
  obtain ⟨z, HZ⟩ : ∃ z, Hid (profZ (setZ (rectZ s s)) = z) := ⟨_, rfl⟩
  rw [HZ.out] at HLC ⊢
  generalize rectZ s s = rz at *
  clear HZ hok
  go_enter Tryz.func13, Tryz.ntmps13
  go_wp2_with fail
  refine (l01In_any _ _ _ _).mono ?_
  rintro e w0 ⟨rfl, rfl⟩
  rw [t1]
  go_wp2_with fail
  refine (l01In_any _ _ _ _).mono ?_
  rintro e w0 ⟨rfl, rfl⟩
  rw [t1]
  go_wp2_with fail
  refine (HRC.out _).mono ?_
  rintro e w1 ⟨u1, rfl, hr1, hb1⟩
  have HC := Lib.hid (HLC.out u1 _ w1 hr1 (Nat.le_refl _))
  clear hr1
  go_wp2_with fail
  refine HC.out.mono ?_
  rintro e w2 ⟨rfl, hb2⟩
  go_wp2_with fail
  go_ret
  exact ⟨rfl, hb1.trans (hb2.mono hb1.size)⟩

theorem CountFixed_sq (s : Nat) (hs : s = 2 ∨ s = 4) (t : Nat) (ht : t ≤ 3) (m : Bool) (w : World) :
    Calls Tryz.prog 9 #[.int .i64 (s : Int), .int .i64 (t : Int), .bool m] w fun e w' => e = .returned (.int .i64 (fixN s t m : Nat)) ∧ Below w.heap.size w w' := by
  rcases hs with hs | hs
  · exact CountFixed_yes2 s hs t ht m w
  · exact CountFixed_yes4 s hs t ht m w
theorem CountClasses_sq (s : Nat) (hs : s = 2 ∨ s = 4) (w : World) :
    Calls Tryz.prog 14 #[.int .i64 (s : Int)] w fun e w' => e = .returned (.int .i64 (clsN s : Nat)) ∧ Below w.heap.size w w' := by
  rcases hs with hs | hs
  · exact CountClasses_yes2 s hs w
  · exact CountClasses_yes4 s hs w
end Go.Proofs.YtehnbalbpfmijaaGreatDoor
