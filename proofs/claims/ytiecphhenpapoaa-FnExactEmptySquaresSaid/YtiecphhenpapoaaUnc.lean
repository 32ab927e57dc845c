/- GrowDiamond of the reference, whole; UncoveredOf. -/
import Derived.Test.YtiecphhenpapoaaGrow
import Derived.Test.YtiecphhenpapoaaCells
namespace Go.Proofs.Ytiecphhenpapoaa
open Go.RowKit
set_option linter.unusedVariables false

set_option maxRecDepth 100000 in
set_option maxHeartbeats 4000000 in
theorem specGrow_any (n : Int) (v : Value) (ls : List Lk) (B : Nat) (w : World) (h : RdF elDomino w B v ls) (hB : B ≤ w.heap.size) :
    Calls Try.prog 119 #[.int .i64 n, v] w (RetGrow w (growB n ls) (growZ n ls)) := by
  cases hf : growB n ls
  · have HZ : Hid (growZ n ls = []) := by unfold Hid growZ; rw [hf]; rfl
    rw [HZ.out]
    have HA0 : Hid (Acc elDomino w w.heap.size (w.alloc (.cells #[] 58)) (.slice (some ⟨w.heap.size, 0, none⟩) 0 0) []) := Acc.start w
    cases t1 : inB n 1 3
    · clear hf
      go_enter Try.func119, Try.ntmps119
      go_wp2_with fail
      generalize w.alloc (.cells #[] 58) = W0 at *
      refine (l01In_any _ _ _ _).mono ?_
      rintro e w' ⟨rfl, rfl⟩
      rw [t1]
      go_wp2_with fail
      exact bodyPost_ret (v := .tuple #[.slice (some ⟨w.heap.size, 0, none⟩) 0 0, .bool false]) (by simp [results, Try.results119, go_sem]) rfl ⟨_, rfl, HA0.out.1, HA0.out.2.1⟩
    · have ha := (inB_iff _ _ _).1 t1
      obtain ⟨n, rfl⟩ := Int.eq_ofNat_of_zero_le (show 0 ≤ n by omega)
      have ht : sTileB (setZ (diamZ n)) ls = false := by unfold growB at hf; rw [t1] at hf; simpa using hf
      have HT : Hid (sTileB (setZ (diamZ n)) ls = false) := ht
      have HOK := Lib.hid (diam_ok n (by omega))
      have HV := Lib.hid h
      clear ht h hf
      go_enter Try.func119, Try.ntmps119
      go_wp2_with fail
      generalize w.alloc (.cells #[] 58) = W0 at *
      refine (l01In_any _ _ _ _).mono ?_
      rintro e w' ⟨rfl, rfl⟩
      rw [t1]
      go_wp2_with fail
      refine (specDiamond_yes n (by omega) _).mono ?_
      rintro e w1 ⟨u1, rfl, hr1, hb1⟩
      have HR1 := Lib.hid hr1
      have HA1 := Lib.hid (HA0.out.below hb1)
      have HB1 := Lib.hid HA1.out.2.1
      clear hb1 hr1
      go_wp2_with fail
      refine (specIsTiling_yes _ _ _ ls _ _ HR1.out ((HV.out.below (HB1.out.mono hB)).more (Nat.le_trans hB HB1.out.size)) (Nat.le_refl _) HOK.out).mono ?_
      rintro e w2 ⟨rfl, hb2⟩
      rw [HT.out]
      have HA2 := Lib.hid (HA1.out.below hb2)
      clear hb2
      go_wp2_with fail
      exact bodyPost_ret (v := .tuple #[.slice (some ⟨w.heap.size, 0, none⟩) 0 0, .bool false]) (by simp [results, Try.results119, go_sem]) rfl ⟨_, rfl, HA2.out.1, HA2.out.2.1⟩
  · have h9 := hf
    unfold growB at h9
    simp only [Bool.and_eq_true, inB_iff] at h9
    obtain ⟨n, rfl⟩ := Int.eq_ofNat_of_zero_le (show 0 ≤ n by omega)
    have HZ : growZ n ls = sortI (growTo n ls ls.length) (growTo n ls ls.length).length := by unfold growZ; rw [hf]; rfl
    rw [HZ]
    exact specGrow_yes n v ls B w h hB (by omega) h9.2

/-- Two values in blocks of their own. -/
def Sep (u v : Value) : Prop := ∀ k, u.ownBlock = some k → v.ownBlock = some k → False
theorem Sep.symm {u v : Value} (h : Sep u v) : Sep v u := fun k h1 h2 => h k h2 h1
theorem Sep.push {α : Type} {E' : El α} {wr w' : World} {lo : Nat} {u u' v : Value} {ys : List α} (hD : Sep u v) (hB : OwnF E' wr lo v ys) (G : Grew wr w' u u') : OwnF E' w' lo v ys ∧ Sep u' v := by
  obtain ⟨hg, g, h1, h2, h3⟩ := G
  refine ⟨hB.kept hg fun k hk e => hD k e.symm hk, fun k hk hv => ?_⟩
  rw [h1] at hk
  simp only [Option.some.injEq] at hk
  subst hk
  rcases h2 with h2 | h2
  · exact hD g h2 hv
  · have := hB.lt g hv; omega
theorem Sep.pushS {α : Type} {E' : El α} {wr w' : World} {lo : Nat} {u u' v : Value} {ys : List α} (hD : Sep u v) (hB : OwnF E' wr lo v ys) (G : GrewS wr w' u u') : OwnF E' w' lo v ys ∧ Sep u' v := by
  obtain ⟨hg, h2⟩ := G
  refine ⟨hB.kept hg fun k hk e => hD k e.symm hk, fun k hk hv => ?_⟩
  rcases h2 with h2 | h2
  · rw [h2] at hk; exact hD k hk hv
  · rw [h2] at hk
    simp only [Option.some.injEq] at hk
    have := hB.lt k hv; omega
theorem Sep.fresh {α : Type} {E : El α} {w : World} {lo g n c : Nat} {u : Value} {ys : List α} (h : OwnF E w lo u ys) (hg : w.heap.size ≤ g) : Sep (.slice (some ⟨g, 0, none⟩) n c) u := fun k hk hv => by
  simp only [Value.ownBlock, Option.some.injEq] at hk
  have := (h.lt k hv).2; omega
theorem Sep.newer {α : Type} {E : El α} {w : World} {lo g n c : Nat} {u : Value} {ys : List α} (h : OwnF E w lo u ys) (hg : g < lo) : Sep (.slice (some ⟨g, 0, none⟩) n c) u := fun k hk hv => by
  simp only [Value.ownBlock, Option.some.injEq] at hk
  have := (h.lt k hv).1; omega

/-- The cells of a list that no domino lies over. -/
def uncB (ls : List Lk) (x y : Int) : Bool := decide (fstZ (domAt ls x y) ls.length 0 < 0)
def uncTo (ls : List Lk) (cs : List (Int × Int)) : Nat → List (Int × Int)
  | 0 => []
  | k + 1 => if uncB ls (dx cs k) (dy cs k) then uncTo ls cs k ++ [(dx cs k, dy cs k)] else uncTo ls cs k
theorem uncTo_len (ls : List Lk) (cs : List (Int × Int)) : ∀ k, (uncTo ls cs k).length ≤ k
  | 0 => Nat.le_refl _
  | k + 1 => by have := uncTo_len ls cs k; rw [uncTo]; split <;> simp <;> omega
def uncZ (R : Nat) (ls : List Lk) : List (Int × Int) := uncTo ls (cellsTo R 64) (cellsTo R 64).length

set_option maxRecDepth 100000 in
set_option maxHeartbeats 4000000 in
theorem specUncovered_any (v u : Value) (zs : List Int) (ls : List Lk) (B : Nat) (w : World) (hr : RdI w B v zs) (h : RdF elDomino w B u ls) (hB : B ≤ w.heap.size) (hok : regOkB zs = true) :
    Calls Try.prog 120 #[.agg #[v], u] w fun e w' => ∃ x, e = .returned x ∧ OwnF elCell w' w.heap.size x (uncZ (setZ zs) ls) ∧ Below w.heap.size w w' := by
  have HU := Lib.hid hr
  have HV := Lib.hid h
  have hcl : (cellsTo (setZ zs) 64).length ≤ 64 := by rw [cellsTo_len]; exact cntB_le _ _
  have HCO := Lib.hid (fun V (hb : Below w.heap.size w V) => CellsOf_list v zs B V (HU.out.below (hb.mono hB)) (Nat.le_trans hB hb.size) hok)
  have HZ : Hid (uncZ (setZ zs) ls = uncTo ls (cellsTo (setZ zs) 64) (cellsTo (setZ zs) 64).length) := rfl
  rw [HZ.out]
  generalize cellsTo (setZ zs) 64 = cs at *
  have HST : Hid (∀ k, uncTo ls cs (k + 1) = if uncB ls (dx cs k) (dy cs k) then uncTo ls cs k ++ [(dx cs k, dy cs k)] else uncTo ls cs k) := fun k => rfl
  have HSL := Lib.hid (uncTo_len ls cs)
  have HS0 : Hid (uncTo ls cs 0 = []) := rfl
  obtain ⟨st, HE⟩ : ∃ st, Hid (st = uncTo ls cs) := ⟨_, rfl⟩
  rw [← HE.out] at HST HSL HS0 ⊢
  clear HE HZ h
  obtain ⟨A, c, rfl, h1, h2, hR⟩ := hr
  unfold maxLen at h2
  obtain ⟨W, hW, k1, hb⟩ := one_alloc w (.cells #[.slice A zs.length c] 51)
  have c0 : (W.alloc (.cells #[] 56)).cell? ⟨w.heap.size, 0, none⟩ = some (.slice A zs.length c) := by
    rw [blk_cell (((Below.refl W.heap.size W).alloc (Nat.le_refl _) _).block _ (lt_of_block k1) |>.trans k1)]; rfl
  have HB := Lib.hid hb
  have HW := Lib.hid hW
  have hBW : B ≤ W.heap.size := Nat.le_trans hB hb.size
  have HA0 : Hid (Acc elCell w w.heap.size (W.alloc (.cells #[] 56)) (.slice (some ⟨W.heap.size, 0, none⟩) 0 0) []) := Acc.startAt hb (Nat.le_refl _) hb.size
  have HG0 : Hid (W.heap.size < (W.alloc (.cells #[] 56)).heap.size) := by unfold Hid; simp
  clear hW k1 hb hR hok
  go_enter Try.func120, Try.ntmps120
  go_upto_region 1 with (fail)
  rw [← HW.out]
  go_upto_region 2 with (fail)
  generalize W.alloc (.cells #[] 56) = W1 at *
  go_wp2_with fail
  refine (HCO.out _ HA0.out.2.1).mono ?_
  rintro e w2 ⟨u1, rfl, ho, hb2⟩
  have HA2 := Lib.hid (HA0.out.below hb2)
  have HS2 := Lib.hid (Sep.newer (n := 0) (c := 0) ho HG0.out)
  have HO2 := Lib.hid (ho.mono HA0.out.2.1.size)
  obtain ⟨A2, c2, rfl, q1, q2, _⟩ := RdD.of (E := elCell) rfl (fun _ => rfl) (ho.rd okCell)
  unfold maxLen at q2
  clear c0 hb2 ho
  go_wp2_with fail
  go_loopw [5, 7] (fun o i wr => ∃ (k : Nat) (x : Value), k ≤ cs.length ∧ i = .int .i64 (k : Int) ∧ x = o ∧ Hid (Acc elCell w w.heap.size wr x (st k)) ∧ Hid (OwnF elCell wr w.heap.size (.slice A2 cs.length c2) cs) ∧ Hid (Sep x (.slice A2 cs.length c2))) (fun _ i _ => cs.length - (intOf i).toNat)
  case atStart => exact ⟨0, _, Nat.zero_le _, rfl, rfl, by rw [HS0.out]; exact HA2, HO2, HS2⟩
  case round =>
    obtain ⟨k, x, hk, rfl, rfl, HA, HO, HS⟩ := hrel
    obtain ⟨A1, ca, hv, q3, q4, _⟩ := HA.out.1.rd okCell
    subst hv
    unfold maxLen at q4
    have hlen := HSL.out k
    by_cases hlt : k < cs.length
    · have ht : decide ((k : Int) < (cs.length : Int)) = true := by simp only [decide_eq_true_eq]; omega
      obtain ⟨A9, c9, he, _, _, G9⟩ := RdD.of (E := elCell) rfl (fun _ => rfl) (HO.out.rd okCell)
      simp only [Value.slice.injEq, true_and] at he
      obtain ⟨rfl, rfl⟩ := he
      obtain ⟨ad, rfl, hbl, hx, hy⟩ := G9.out k hlt
      have HDA := Lib.hid (specDominoAt_any u ls (dx cs k) (dy cs k) B wr (HV.out.below (HA.out.2.1.mono hB)) (Nat.le_trans hB HA.out.2.1.size))
      have HT : Hid (st (k + 1) = if decide (fstZ (domAt ls (dx cs k) (dy cs k)) ls.length 0 < 0) then st k ++ [(dx cs k, dy cs k)] else st k) := HST.out k
      have hk0 : (0 : Int) ≤ (k : Int) := by omega
      have hk1 : (k : Int) < (cs.length : Int) := by omega
      generalize fstZ (domAt ls (dx cs k) (dy cs k)) ls.length 0 = q at *
      generalize dx cs k = x at *
      generalize dy cs k = y at *
      generalize st k = ys at *
      have hbl2 : (ad.add (k * 2)).block < wr.heap.size := by rw [addBlock]; omega
      have HBL := Lib.hid hbl2
      clear hbl hbl2 G9
      go_wp2_with fail
      refine HDA.out.mono ?_
      rintro e w3 ⟨rfl, hb3⟩
      have hx3 := (hb3.cell (p := ad.add (k * 2)) HBL.out).trans hx
      have hy3 := (hb3.cell (p := ⟨(ad.add (k * 2)).block, (ad.add (k * 2)).off + 1, none⟩) HBL.out).trans hy
      have HA3 := Lib.hid (HA.out.below hb3)
      have HO3 := Lib.hid (HO.out.below hb3)
      clear hb3 hx hy
      cases hq : decide (q < 0)
      · rw [hq] at HT
        have HT2 : Hid (st (k + 1) = ys) := HT.out
        clear HT
        go_wp2_with fail
        go_roundw
        case rel => exact ⟨k + 1, _, by omega, by go_num, rfl, by rw [HT2.out]; exact HA3, HO3, HS⟩
        case measure => simp [intOf]; omega
      · rw [hq] at HT
        have HT2 : Hid (st (k + 1) = ys ++ [(x, y)]) := HT.out
        clear HT
        go_wp2_with (at_builtin; refine wpList_push okCell rfl _ _ rfl HA3.out rfl (x, y) _ rfl _ rfl rfl (by omega) ?_; intro v10 w10 HA10 HG10)
        have HP := Lib.hid (HS.out.push HO3.out HG10.out)
        go_roundw
        case rel => exact ⟨k + 1, _, by omega, by go_num, rfl, by rw [HT2.out]; exact HA10, HP.out.1, HP.out.2⟩
        case measure => simp [intOf]; omega
    · obtain rfl : k = cs.length := by omega
      have ht : decide ((cs.length : Int) < (cs.length : Int)) = false := by simp
      go_wp2_with fail
      go_ret
      exact ⟨_, rfl, HA.out.1, HA.out.2.1⟩
end Go.Proofs.Ytiecphhenpapoaa

namespace Go.Proofs.Ytiecphhenpapoaa
open Go.RowKit
set_option linter.unusedVariables false

def lessN (s m : Nat) : Nat := s &&& (18446744073709551615 - m)
theorem lessN_bit (s m j : Nat) (hm : m < 18446744073709551616) (hj : j < 64) : (lessN s m).testBit j = (s.testBit j && !m.testBit j) := by
  unfold lessN
  rw [Nat.testBit_and]
  have h := Nat.testBit_two_pow_sub_succ (x := m) (n := 64) (by simpa using hm) j
  rw [show 2 ^ 64 - (m + 1) = 18446744073709551615 - m by omega] at h
  rw [h]
  simp [hj]
theorem lessN_lt (s m : Nat) (hs : s < 18446744073709551616) : lessN s m < 18446744073709551616 := Nat.lt_of_le_of_lt Nat.and_le_left hs
/-- The four cells of a square. -/
def qx (a j : Nat) : Nat := if j % 2 = 1 then a + 1 else a
def qy (b j : Nat) : Nat := if 2 ≤ j then b + 1 else b
def sqL (a b : Nat) : List (Int × Int) := [((a : Int), (b : Int)), ((a : Int) + 1, (b : Int)), ((a : Int), (b : Int) + 1), ((a : Int) + 1, (b : Int) + 1)]
theorem sqL_at (a b j : Nat) (hj : j < 4) : dx (sqL a b) j = ((qx a j : Nat) : Int) ∧ dy (sqL a b) j = ((qy b j : Nat) : Int) := by
  match j, hj with
  | 0, _ => simp [sqL, dx, dy, qx, qy]
  | 1, _ => simp [sqL, dx, dy, qx, qy]
  | 2, _ => simp [sqL, dx, dy, qx, qy]
  | 3, _ => simp [sqL, dx, dy, qx, qy]
theorem q_le (a b j : Nat) (ha : a ≤ 7) (hb : b ≤ 7) : qx a j ≤ 8 ∧ qy b j ≤ 8 := by unfold qx qy; constructor <;> split <;> omega
/-- The first j of them lie in a set. -/
def allTo (T a b : Nat) : Nat → Bool
  | 0 => true
  | j + 1 => allTo T a b j && hasC T (qx a j) (qy b j)
theorem allTo_in {T a b : Nat} (h : allTo T a b 4 = true) : a ≤ 6 ∧ b ≤ 6 := by
  simp only [allTo, qx, qy, hasC, Bool.and_eq_true, decide_eq_true_eq] at h
  have := h.2.1
  simp at this
  omega
def esI (L0 : Nat) (cs : List (Int × Int)) : Nat → Nat × List (Int × Int)
  | 0 => (L0, [])
  | k + 1 => if allTo (esI L0 cs k).1 (dx cs k).toNat (dy cs k).toNat 4 then
      (lessN (esI L0 cs k).1 (sofTo (sqL (dx cs k).toNat (dy cs k).toNat) 4), (esI L0 cs k).2 ++ [(dx cs k, dy cs k)]) else esI L0 cs k
theorem esI_len (L0 : Nat) (cs : List (Int × Int)) : ∀ k, (esI L0 cs k).2.length ≤ k
  | 0 => Nat.le_refl _
  | k + 1 => by have := esI_len L0 cs k; rw [esI]; split <;> simp <;> omega
theorem esI_lt (L0 : Nat) (h : L0 < 18446744073709551616) (cs : List (Int × Int)) : ∀ k, (esI L0 cs k).1 < 18446744073709551616
  | 0 => h
  | k + 1 => by
    have := esI_lt L0 h cs k
    rw [esI]; split
    · exact lessN_lt _ _ this
    · exact this
theorem cellsTo_in (T : Nat) : ∀ n, n ≤ 64 → ∀ c ∈ cellsTo T n, ∃ a b : Nat, c = ((a : Int), (b : Int)) ∧ a ≤ 7 ∧ b ≤ 7
  | 0, _, c, h => by simp [cellsTo] at h
  | n + 1, hn, c, h => by
    rw [cellsTo, List.mem_append] at h
    rcases h with h | h
    · exact cellsTo_in T n (by omega) c h
    · split at h
      · simp only [List.mem_singleton] at h; exact ⟨n % 8, n / 8, h, by omega, by omega⟩
      · simp at h
theorem cellsTo_at (T : Nat) (k : Nat) (hk : k < (cellsTo T 64).length) : ∃ a b : Nat, dx (cellsTo T 64) k = (a : Int) ∧ dy (cellsTo T 64) k = (b : Int) ∧ a ≤ 7 ∧ b ≤ 7 := by
  obtain ⟨a, b, h, ha, hb⟩ := cellsTo_in T 64 (Nat.le_refl _) _ (List.getElem_mem hk)
  refine ⟨a, b, ?_, ?_, ha, hb⟩
  · simp [dx, List.getD_eq_getElem?_getD, hk, h]
  · simp [dy, List.getD_eq_getElem?_getD, hk, h]
theorem sofTo_lt (ls : List (Int × Int)) (hok : ∀ k, k < ls.length → (0 ≤ dx ls k ∧ dx ls k ≤ 7) ∧ 0 ≤ dy ls k ∧ dy ls k ≤ 7) : ∀ k, k ≤ ls.length → sofTo ls k < 18446744073709551616
  | 0, _ => by simp [sofTo]
  | k + 1, hk => by
    have h1 := hok k (by omega)
    exact with_lt (sofTo_lt ls hok k (by omega)) (by unfold cix; omega)
theorem sqL_ok {a b : Nat} (ha : a ≤ 6) (hb : b ≤ 6) (k : Nat) (hk : k < (sqL a b).length) : (0 ≤ dx (sqL a b) k ∧ dx (sqL a b) k ≤ 7) ∧ 0 ≤ dy (sqL a b) k ∧ dy (sqL a b) k ≤ 7 := by
  have h4 : k < 4 := hk
  rw [(sqL_at a b k h4).1, (sqL_at a b k h4).2]
  unfold qx qy
  split <;> split <;> omega
/-- A slice of the cells just laid. -/
theorem litF {α : Type} {E : El α} (w : World) (cs : Array Value) (xs : List α) (n : Nat) (hn : n = xs.length) (hl : n ≤ maxLen) (hc : cs.toList = xs.flatMap E.f) (hE : ∀ x, (E.f x).length = E.s) : OwnF E (w.alloc (.cells cs E.e)) w.heap.size (.slice (some ⟨w.heap.size, 0, none⟩) n n) xs := by
  subst hn
  unfold OwnF
  rw [← hc]
  exact World.ownsRow_lit w cs xs.length (Nat.le_refl _) hl (by rw [← Array.length_toList, hc, flat_length hE])
def esZ (n : Int) (ls : List Lk) : List (Int × Int) :=
  if growB n ls then
    (fun L : Nat => (esI L (cellsTo L 64) (cellsTo L 64).length).2) (lessN (setZ (diamZ (n.toNat + 1))) (covTo (growZ n ls) (growZ n ls).length))
  else []

set_option maxRecDepth 100000 in
set_option maxHeartbeats 8000000 in
theorem EmptySquares_yes (n : Nat) (v : Value) (ls : List Lk) (B : Nat) (w : World) (h : RdF elDomino w B v ls) (hB : B ≤ w.heap.size) (hn : 1 ≤ n ∧ n ≤ 3) (hg : growB (n : Int) ls = true) :
    Calls Try.prog 37 #[.int .i64 (n : Int), v] w fun e w' => ∃ x, e = .returned x ∧ OwnF elCell w' w.heap.size x (esZ n ls) ∧ Below w.heap.size w w' := by
  have HGD := Lib.hid (GrowDiamond_any (n : Int) v ls B w h hB)
  rw [hg] at HGD
  have HZ : Hid (esZ n ls = (fun L : Nat => (esI L (cellsTo L 64) (cellsTo L 64).length).2) (lessN (setZ (diamZ (n + 1))) (covTo (growZ n ls) (growZ n ls).length))) := by
    unfold Hid esZ; rw [hg]; rfl
  rw [HZ.out]
  have HD : Hid (∀ V, Calls Try.prog 38 #[.int .i64 ((n : Int) + 1)] V fun e w' => ∃ u, e = .returned (.agg #[u]) ∧ RdI w' w'.heap.size u (diamZ (n + 1)) ∧ Below V.heap.size V w') := fun V => by
    have h9 := Diamond_yes (n + 1) (by omega) V
    rw [show ((n + 1 : Nat) : Int) = (n : Int) + 1 by omega] at h9
    exact h9
  have HOK := Lib.hid (diam_ok (n + 1) (by omega))
  have hR := setZ_lt (diam_ok (n + 1) (by omega))
  generalize growZ (n : Int) ls = gs at *
  generalize diamZ (n + 1) = zs at *
  have hCV := covTo_lt gs gs.length
  have HAN : Hid (bits .andNot .u64 (setZ zs : Int) (covTo gs gs.length : Int) = ((lessN (setZ zs) (covTo gs gs.length) : Nat) : Int)) := u64_andNot_nat _ _ hR hCV
  have hL0 := lessN_lt (setZ zs) (covTo gs gs.length) hR
  have HSET := Lib.hid (fun V u hu => rset_any u zs V.heap.size V hu (Nat.le_refl _) HOK.out)
  have HCOV := Lib.hid (fun V u hu => covered_any u gs V.heap.size V hu (Nat.le_refl _))
  generalize lessN (setZ zs) (covTo gs gs.length) = L0 at *
  generalize setZ zs = R at *
  generalize covTo gs gs.length = C at *
  have HCELLS := Lib.hid (fun V => cells_any L0 hL0 V)
  have HCA := Lib.hid (cellsTo_at L0)
  have hcl : (cellsTo L0 64).length ≤ 64 := by rw [cellsTo_len]; exact cntB_le _ _
  show Calls _ _ _ _ fun e w' => ∃ x, e = .returned x ∧ OwnF elCell w' w.heap.size x (esI L0 (cellsTo L0 64) (cellsTo L0 64).length).2 ∧ Below w.heap.size w w'
  generalize cellsTo L0 64 = cs at *
  have HST : Hid (∀ k, esI L0 cs (k + 1) = if allTo (esI L0 cs k).1 (dx cs k).toNat (dy cs k).toNat 4 then
      (lessN (esI L0 cs k).1 (sofTo (sqL (dx cs k).toNat (dy cs k).toNat) 4), (esI L0 cs k).2 ++ [(dx cs k, dy cs k)]) else esI L0 cs k) := fun k => rfl
  have HSL := Lib.hid (esI_len L0 cs)
  have HSB := Lib.hid (esI_lt L0 hL0 cs)
  have HS0 : Hid (esI L0 cs 0 = (L0, [])) := rfl
  obtain ⟨st, HE⟩ : ∃ st, Hid (st = esI L0 cs) := ⟨_, rfl⟩
  rw [← HE.out] at HST HSL HSB HS0 ⊢
  have hn0 : (0 : Int) ≤ (n : Int) := by omega
  have hn3 : (n : Int) ≤ 3 := by omega
  clear HE HZ h hg
  go_enter Try.func37, Try.ntmps37
  go_wp2_with fail
  refine HGD.out.mono ?_
  rintro e w1 ⟨u1, rfl, ho1, hb1⟩
  have HO1 := Lib.hid ho1
  have HB1 := Lib.hid hb1
  clear ho1 hb1
  go_wp2_with fail
  refine (HD.out _).mono ?_
  rintro e w2 ⟨u2, rfl, hr2, hb2⟩
  have HR2 := Lib.hid hr2
  have HO2 := Lib.hid (HO1.out.below hb2)
  have HB2 := Lib.hid (HB1.out.trans (hb2.mono HB1.out.size))
  clear hr2 hb2
  go_wp2_with fail
  refine (HSET.out _ u2 HR2.out).mono ?_
  rintro e w3 ⟨rfl, hb3⟩
  have HO3 := Lib.hid (HO2.out.below hb3)
  have HB3 := Lib.hid (HB2.out.trans (hb3.mono HB2.out.size))
  clear hb3
  go_wp2_with fail
  refine (HCOV.out _ u1 (HO3.out.rd okDomino)).mono ?_
  rintro e w4 ⟨rfl, hb4⟩
  have HB4 := Lib.hid (HB3.out.trans (hb4.mono HB3.out.size))
  have han := HAN.out
  clear hb4
  have HA5 : Hid (Acc elCell w w.heap.size (w4.alloc (.cells #[] 56)) (.slice (some ⟨w4.heap.size, 0, none⟩) 0 0) []) := Acc.startAt HB4.out (Nat.le_refl _) HB4.out.size
  have HG5 : Hid (w4.heap.size < (w4.alloc (.cells #[] 56)).heap.size) := by unfold Hid; simp
  go_upto_region 5 with (fail)
  generalize w4.alloc (.cells #[] 56) = w5 at *
  go_wp2_with fail
  refine (HCELLS.out _).mono ?_
  rintro e w6 ⟨u6, rfl, ho, hb6⟩
  have HA6 := Lib.hid (HA5.out.below hb6)
  have HS6 := Lib.hid (Sep.newer (n := 0) (c := 0) ho HG5.out)
  have HO6 := Lib.hid (ho.mono HA5.out.2.1.size)
  obtain ⟨A2, c2, rfl, q1, q2, _⟩ := RdD.of (E := elCell) rfl (fun _ => rfl) (ho.rd okCell)
  unfold maxLen at q2
  clear hb6 ho han
  go_wp2_with fail
  go_loopw [7, 8, 34] (fun L o i wr => ∃ (k : Nat) (x : Value), k ≤ cs.length ∧ i = .int .i64 (k : Int) ∧ x = o ∧ L = .int .u64 ((st k).1 : Int) ∧ Hid (Acc elCell w w.heap.size wr x (st k).2) ∧ Hid (OwnF elCell wr w.heap.size (.slice A2 cs.length c2) cs) ∧ Hid (Sep x (.slice A2 cs.length c2))) (fun _ _ i _ => cs.length - (intOf i).toNat)
  case atStart => exact ⟨0, _, Nat.zero_le _, rfl, rfl, by rw [HS0.out], by rw [HS0.out]; exact HA6, HO6, HS6⟩
  case round =>
    obtain ⟨k, x, hk, rfl, rfl, rfl, HA, HO, HS⟩ := hrel
    obtain ⟨⟨T, ys⟩, HSK⟩ : ∃ s, Hid (st k = s) := ⟨_, rfl⟩
    have hlen := HSL.out k
    have HTL := Lib.hid (HSB.out k)
    have HT := Lib.hid (HST.out k)
    rw [HSK.out] at HA hlen HTL HT ⊢
    dsimp only at HA hlen HTL HT ⊢
    obtain ⟨A1, ca, hv, q3, q4, _⟩ := HA.out.1.rd okCell
    subst hv
    unfold maxLen at q4
    by_cases hlt : k < cs.length
    · have ht : decide ((k : Int) < (cs.length : Int)) = true := by simp only [decide_eq_true_eq]; omega
      obtain ⟨A9, c9, he, _, _, G9⟩ := RdD.of (E := elCell) rfl (fun _ => rfl) (HO.out.rd okCell)
      simp only [Value.slice.injEq, true_and] at he
      obtain ⟨rfl, rfl⟩ := he
      obtain ⟨ad, rfl, hbl, hx, hy⟩ := G9.out k hlt
      obtain ⟨a, b, hea, heb, ha7, hb7⟩ := HCA.out k hlt
      rw [hea, heb] at HT
      rw [hea] at hx
      rw [heb] at hy
      simp only [Int.toNat_natCast] at HT
      have hk0 : (0 : Int) ≤ (k : Int) := by omega
      have hk1 : (k : Int) < (cs.length : Int) := by omega
      clear hbl G9 hea heb
      go_upto_region 8 with (fail)
      obtain ⟨V, hV, k9, hbV⟩ := one_alloc wr (.cells #[.int .i64 (a : Int), .int .i64 (b : Int)] 56)
      rw [← hV]
      obtain ⟨vn, hvn⟩ : ∃ vn, wr.heap.size = vn := ⟨_, rfl⟩
      have HAV := Lib.hid (HA.out.below hbV)
      have HOV := Lib.hid (HO.out.below hbV)
      rw [hvn] at k9 ⊢
      have HKV := Lib.hid k9
      have e0 : V.cell? ⟨vn, 0, none⟩ = some (.int .i64 (a : Int)) := by rw [blk_cell k9]; rfl
      have e1 : V.cell? ⟨vn, 1, none⟩ = some (.int .i64 (b : Int)) := by rw [blk_cell k9]; rfl
      clear hV k9 hbV hx hy
      go_upto_region 9 with (fail)
      obtain ⟨sn, hsn⟩ : ∃ sn, V.heap.size = sn := ⟨_, rfl⟩
      generalize hX : World.alloc V _ = X
      have HLX : Hid (OwnF elCell X sn (.slice (some ⟨sn, 0, none⟩) 4 4) (sqL a b)) := by
        unfold Hid; rw [← hX, ← hsn]; exact litF (E := elCell) V _ (sqL a b) 4 rfl (by decide) rfl okCell.len
      have hbX : Below V.heap.size V X := by rw [← hX]; exact (Below.refl _ _).alloc (Nat.le_refl _) _
      have HAX := Lib.hid (HAV.out.below hbX)
      have HOX := Lib.hid (HOV.out.below hbX)
      have HKX := Lib.hid (blk_below HKV.out hbX)
      rw [hsn]
      clear hX hbX e0 e1
      go_wp2_with fail
      have HQT : Hid (∀ j, allTo T a b (j + 1) = (allTo T a b j && hasC T (qx a j) (qy b j))) := fun j => rfl
      have HQ0 : Hid (allTo T a b 0 = true) := rfl
      have HQI := Lib.hid (fun h => allTo_in (T := T) (a := a) (b := b) h)
      have HQL := Lib.hid (q_le a b)
      have HQS := Lib.hid (sqL_at a b)
      have HSL4 : Hid ((sqL a b).length = 4) := rfl
      obtain ⟨al, HAL⟩ : ∃ al, Hid (al = allTo T a b) := ⟨_, rfl⟩
      rw [← HAL.out] at HQT HQ0 HQI HT
      clear HAL
      go_loopw [12, 61] (fun f j wi => ∃ i : Nat, i ≤ 4 ∧ j = .int .i64 (i : Int) ∧ f = .bool (al i) ∧ Hid (Below X.heap.size X wi)) (fun _ j _ => 4 - (intOf j).toNat)
      case atStart => exact ⟨0, Nat.zero_le _, rfl, by rw [HQ0.out], Below.refl _ _⟩
      case round =>
        obtain ⟨i, hi, rfl, rfl, HBI⟩ := hrel
        by_cases hi4 : i < 4
        · have hti : decide ((i : Int) < 4) = true := by simp only [decide_eq_true_eq]; omega
          have hi0 : (0 : Int) ≤ (i : Int) := by omega
          have hi1 : (i : Int) < 4 := by omega
          obtain ⟨_, _, he, _, _, G9⟩ := RdD.of (E := elCell) rfl (fun _ => rfl) ((HLX.out.below HBI.out).rd okCell)
          simp only [Value.slice.injEq] at he
          obtain ⟨rfl, h44, rfl⟩ := he
          clear h44
          obtain ⟨ad, had, hbl, hx, hy⟩ := G9.out i (by rw [HSL4.out]; exact hi4)
          simp only [Option.some.injEq] at had
          subst had
          rw [(HQS.out i hi4).1] at hx
          rw [(HQS.out i hi4).2] at hy
          have hq := HQL.out i ha7 hb7
          have HTI := Lib.hid (HQT.out i)
          generalize qx a i = x at *
          generalize qy b i = y at *
          have HHS := Lib.hid (fun V => has_any T x y HTL.out hq.1 hq.2 V)
          generalize hasC T x y = r at *
          generalize al i = ai at *
          have had : (⟨sn, 0, none⟩ : Addr).add (i * 2) = ⟨sn, i * 2, none⟩ := by
            unfold Addr.add; split
            · rename_i h0; rw [h0]
            · simp
          rw [had] at hx hy
          dsimp only at hx hy
          have HXY := Lib.hid (And.intro hx hy)
          clear hbl G9
          go_upto_region 13 with (fail)
          obtain ⟨U, hU, ku, hbU⟩ := one_alloc wr (.cells #[.int .i64 (x : Int), .int .i64 (y : Int)] 56)
          rw [← hU]
          obtain ⟨un, hun⟩ : ∃ un, wr.heap.size = un := ⟨_, rfl⟩
          have HBU := Lib.hid (HBI.out.trans (hbU.mono HBI.out.size))
          rw [hun] at ku ⊢
          have e0 : U.cell? ⟨un, 0, none⟩ = some (.int .i64 (x : Int)) := by rw [blk_cell ku]; rfl
          have e1 : U.cell? ⟨un, 1, none⟩ = some (.int .i64 (y : Int)) := by rw [blk_cell ku]; rfl
          clear hU ku hbU hx hy
          cases ai
          · have HTF : Hid (al (i + 1) = false) := by unfold Hid; rw [HTI.out]; rfl
            go_wp2_with fail
            go_roundw
            case rel => exact ⟨i + 1, by omega, by go_num, by rw [HTF.out], HBU⟩
            case measure => simp [intOf]; omega
          · have HTF : Hid (al (i + 1) = r) := by unfold Hid; rw [HTI.out]; rfl
            go_wp2_with fail
            refine (HHS.out _).mono ?_
            rintro e w8 ⟨rfl, hb8⟩
            have HB8 := Lib.hid (HBU.out.trans (hb8.mono HBU.out.size))
            clear hb8 e0 e1
            go_wp2_with fail
            go_roundw
            case rel => exact ⟨i + 1, by omega, by go_num, by rw [HTF.out], HB8⟩
            case measure => simp [intOf]; omega
        · have HI4 : Hid (i = 4) := by unfold Hid; omega
          have hti : decide ((i : Int) < 4) = false := by simp only [decide_eq_false_iff_not]; omega
          have HAI := Lib.hid (HAX.out.below HBI.out)
          have HOI := Lib.hid (HOX.out.below HBI.out)
          have HKI := Lib.hid (blk_below HKX.out HBI.out)
          have HLI := Lib.hid (HLX.out.below HBI.out)
          have e0 : wr.cell? ⟨vn, 0, none⟩ = some (.int .i64 (a : Int)) := by rw [blk_cell HKI.out]; rfl
          have e1 : wr.cell? ⟨vn, 1, none⟩ = some (.int .i64 (b : Int)) := by rw [blk_cell HKI.out]; rfl
          obtain rfl : i = 4 := HI4.out
          generalize hal : al 4 = ai at *
          cases ai
          · have HT2 : Hid (st (k + 1) = (T, ys)) := HT.out
            go_wp2_with fail
            go_roundw
            case rel => exact ⟨k + 1, _, by omega, by go_num, rfl, by rw [HT2.out], by rw [HT2.out]; exact HAI, HOI, HS⟩
            case measure => simp [intOf]; omega
          · obtain ⟨ha6, hb6⟩ := HQI.out rfl
            have HT2 : Hid (st (k + 1) = (lessN T (sofTo (sqL a b) 4), ys ++ [((a : Int), (b : Int))])) := HT.out
            have HSO := Lib.hid (setOf_any (.slice (some ⟨sn, 0, none⟩) 4 4) (sqL a b) (sqL_ok ha6 hb6) wr.heap.size wr (HLI.out.rd okCell) (Nat.le_refl _))
            have hS := sofTo_lt (sqL a b) (sqL_ok ha6 hb6) 4 (Nat.le_refl _)
            rw [HSL4.out] at HSO
            generalize sofTo (sqL a b) 4 = S at *
            have han : bits .andNot .u64 (T : Int) (S : Int) = ((lessN T S : Nat) : Int) := u64_andNot_nat _ _ HTL.out hS
            go_wp2_with fail
            refine HSO.out.mono ?_
            rintro e w9 ⟨rfl, hb9⟩
            have HA9 := Lib.hid (HAI.out.below hb9)
            have HO9 := Lib.hid (HOI.out.below hb9)
            have HK9 := Lib.hid (blk_below HKI.out hb9)
            clear e0 e1 hb9
            have e0 : w9.cell? ⟨vn, 0, none⟩ = some (.int .i64 (a : Int)) := by rw [blk_cell HK9.out]; rfl
            have e1 : w9.cell? ⟨vn, 1, none⟩ = some (.int .i64 (b : Int)) := by rw [blk_cell HK9.out]; rfl
            go_wp2_with (at_builtin; refine wpList_push okCell rfl _ _ rfl HA9.out rfl ((a : Int), (b : Int)) _ rfl _ rfl rfl (by omega) ?_; intro v10 w10 HA10 HG10)
            have HP := Lib.hid (HS.out.push HO9.out HG10.out)
            go_roundw
            case rel => exact ⟨k + 1, _, by omega, by go_num, rfl, by rw [HT2.out], by rw [HT2.out]; exact HA10, HP.out.1, HP.out.2⟩
            case measure => simp [intOf]; omega
    · obtain rfl : k = cs.length := by omega
      have ht : decide ((cs.length : Int) < (cs.length : Int)) = false := by simp
      go_wp2_with fail
      go_ret
      exact ⟨_, rfl, by rw [HSK.out]; exact HA.out.1, HA.out.2.1⟩

set_option maxRecDepth 100000 in
set_option maxHeartbeats 2000000 in
theorem EmptySquares_any (n : Int) (v : Value) (ls : List Lk) (B : Nat) (w : World) (h : RdF elDomino w B v ls) (hB : B ≤ w.heap.size) :
    Calls Try.prog 37 #[.int .i64 n, v] w fun e w' => ∃ x, e = .returned x ∧ OwnF elCell w' w.heap.size x (esZ n ls) ∧ Below w.heap.size w w' := by
  cases hf : growB n ls
  · have HZ : Hid (esZ n ls = []) := by unfold Hid esZ; rw [hf]; rfl
    rw [HZ.out]
    have HGD := Lib.hid (GrowDiamond_any n v ls B w h hB)
    rw [hf] at HGD
    clear h hf
    go_enter Try.func37, Try.ntmps37
    go_wp2_with fail
    refine HGD.out.mono ?_
    rintro e w1 ⟨u1, rfl, ho1, hb1⟩
    have HB1 := Lib.hid hb1
    clear ho1 hb1
    go_wp2_with fail
    go_ret
    exact ⟨_, rfl, OwnF.nil, HB1.out⟩
  · have h9 := hf
    unfold growB at h9
    simp only [Bool.and_eq_true, inB_iff] at h9
    obtain ⟨n, rfl⟩ := Int.eq_ofNat_of_zero_le (show 0 ≤ n by omega)
    exact EmptySquares_yes n v ls B w h hB (by omega) hf
end Go.Proofs.Ytiecphhenpapoaa

namespace Go.Proofs.Ytiecphhenpapoaa
open Go.RowKit
set_option linter.unusedVariables false

theorem fstZ_neg (p : Nat → Bool) (n : Nat) : fstZ p n 0 < 0 ↔ ∀ i, i < n → p i = false := by
  rcases fstZ_spec p n 0 with ⟨h1, h2⟩ | ⟨j, h1, h2, h3, h4, h5⟩
  · rw [h1]
    exact ⟨fun _ i hi => h2 i (by omega) (by omega), fun _ => by omega⟩
  · rw [h1]
    refine ⟨fun h => absurd h (by omega), fun h => ?_⟩
    rw [h j (by omega)] at h4
    simp at h4
theorem hasCL_iff (ls : List (Int × Int)) (x y : Int) : hasCL ls x y = true ↔ (x, y) ∈ ls := by
  have h := fstZ_neg (cEq ls x y) ls.length
  unfold hasCL
  rw [decide_eq_true_eq, List.mem_iff_getElem]
  constructor
  · intro h1
    have h2 : ¬ ∀ i, i < ls.length → cEq ls x y i = false := fun h9 => by have := h.2 h9; omega
    simp only [Classical.not_forall] at h2
    obtain ⟨i, hi, h3⟩ := h2
    refine ⟨i, hi, ?_⟩
    simp only [cEq, Bool.not_eq_false, Bool.and_eq_true, beq_iff_eq, dx, dy, List.getD_eq_getElem?_getD, List.getElem?_eq_getElem hi, Option.getD_some] at h3
    exact Prod.ext h3.1 h3.2
  · rintro ⟨i, hi, h1⟩
    by_cases h2 : 0 ≤ fstZ (cEq ls x y) ls.length 0
    · exact h2
    · have h3 := h.1 (by omega) i hi
      simp only [cEq, dx, dy, List.getD_eq_getElem?_getD, List.getElem?_eq_getElem hi, Option.getD_some, h1] at h3
      simp at h3
theorem bool_ext {a b : Bool} (h : a = true ↔ b = true) : a = b := by cases a <;> cases b <;> simp_all
/-- The cells under a domino. -/
theorem dM_bit (l : Lk) (h : domL l = true) (x y : Nat) (hx : x ≤ 7) (hy : y ≤ 7) : (dM l).testBit (cix x y) = ((l.1 == (x : Int) && l.2.1 == (y : Int)) || (sndX l.1 l.2.2 == (x : Int) && sndY l.2.1 l.2.2 == (y : Int))) := by
  obtain ⟨a, b, d⟩ := l
  have hd := (domB_iff _ _ _).1 h
  obtain ⟨a, rfl⟩ := Int.eq_ofNat_of_zero_le hd.1.1
  obtain ⟨b, rfl⟩ := Int.eq_ofNat_of_zero_le hd.1.2
  refine bool_ext ?_
  have h2 := hd.2
  dsimp only
  cases d
  · have hw : wrap64 ((a : Int) + 1) = (a : Int) + 1 := IntWalk.wrap64_in _ (by have h3 := hd.2; simp at h3; omega)
    simp only [dM, domM, Int.toNat_natCast, Nat.testBit_or, Nat.testBit_two_pow, Bool.or_eq_true, decide_eq_true_eq, Bool.and_eq_true, beq_iff_eq, sndX, sndY, cix, if_false, Bool.false_eq_true] at h2 ⊢
    simp [hw] at h2 ⊢
    omega
  · have hw : wrap64 ((b : Int) + 1) = (b : Int) + 1 := IntWalk.wrap64_in _ (by have h3 := hd.2; simp at h3; omega)
    simp only [dM, domM, Int.toNat_natCast, Nat.testBit_or, Nat.testBit_two_pow, Bool.or_eq_true, decide_eq_true_eq, Bool.and_eq_true, beq_iff_eq, sndX, sndY, cix, if_true] at h2 ⊢
    simp [hw] at h2 ⊢
    omega
theorem cov_bit (ls : List Lk) (x y : Nat) (hx : x ≤ 7) (hy : y ≤ 7) : ∀ k, (covTo ls k).testBit (cix x y) = true ↔ ∃ i, i < k ∧ domAt ls x y i = true
  | 0 => by simp [covTo]
  | k + 1 => by
    have ih := cov_bit ls x y hx hy k
    have hstep : (covTo ls (k + 1)).testBit (cix x y) = true ↔ (covTo ls k).testBit (cix x y) = true ∨ domAt ls x y k = true := by
      rw [covTo]
      unfold domAt
      cases hd : domL (dAt ls k)
      · have hd2 : domB (lx ls k) (ly ls k) (ld ls k) = false := hd
        simp [hd2]
      · have hd2 : domB (lx ls k) (ly ls k) (ld ls k) = true := hd
        have hb : (dM (dAt ls k)).testBit (cix x y) = _ := dM_bit (dAt ls k) hd x y hx hy
        rw [if_pos rfl, Nat.testBit_or, hb, hd2]
        simp only [Bool.or_eq_true, Bool.true_and, dAt]
    rw [hstep, ih]
    constructor
    · rintro (⟨i, h1, h2⟩ | h)
      · exact ⟨i, by omega, h2⟩
      · exact ⟨k, by omega, h⟩
    · rintro ⟨i, h1, h2⟩
      by_cases e : i = k
      · subst e; exact .inr h2
      · exact .inl ⟨i, by omega, h2⟩
theorem unc_bit (ls : List Lk) (x y : Nat) (hx : x ≤ 7) (hy : y ≤ 7) : uncB ls (x : Int) (y : Int) = !(covTo ls ls.length).testBit (cix x y) := by
  refine bool_ext ?_
  unfold uncB
  rw [decide_eq_true_eq, fstZ_neg]
  have h := cov_bit ls x y hx hy ls.length
  constructor
  · intro h1
    cases hc : (covTo ls ls.length).testBit (cix x y)
    · rfl
    · obtain ⟨i, h2, h3⟩ := h.1 hc
      rw [h1 i h2] at h3; simp at h3
  · intro h1 i hi
    cases hd : domAt ls x y i
    · rfl
    · rw [h.2 ⟨i, hi, hd⟩] at h1; simp at h1
theorem uncTo_take (ls : List Lk) (cs : List (Int × Int)) : ∀ k, k ≤ cs.length → uncTo ls cs k = (cs.take k).filter (fun c => uncB ls c.1 c.2)
  | 0, _ => by simp [uncTo]
  | k + 1, hk => by
    have hd : (dx cs k, dy cs k) = cs[k]'(by omega) := by simp [dx, dy, List.getD_eq_getElem?_getD, List.getElem?_eq_getElem (show k < cs.length by omega)]
    rw [uncTo, uncTo_take ls cs k (by omega), List.take_add_one, List.getElem?_eq_getElem (show k < cs.length by omega), List.filter_append, hd]
    have h1 : dx cs k = (cs[k]'(by omega)).1 := by rw [← hd]
    have h2 : dy cs k = (cs[k]'(by omega)).2 := by rw [← hd]
    rw [h1, h2]
    cases hu : uncB ls (cs[k]'(by omega)).1 (cs[k]'(by omega)).2 <;> simp [hu]
theorem unc_cells (R : Nat) (hR : R < 18446744073709551616) (ls : List Lk) : uncZ R ls = cellsTo (lessN R (covTo ls ls.length)) 64 := by
  unfold uncZ
  rw [uncTo_take _ _ _ (Nat.le_refl _), List.take_length]
  have key : ∀ n, n ≤ 64 → (cellsTo R n).filter (fun c => uncB ls c.1 c.2) = cellsTo (lessN R (covTo ls ls.length)) n := by
    intro n
    induction n with
    | zero => intro _; simp [cellsTo]
    | succ n ih =>
      intro hn
      rw [cellsTo, cellsTo, List.filter_append, ih (by omega)]
      congr 1
      have e : cix (n % 8) (n / 8) = n := by unfold cix; omega
      have hu := unc_bit ls (n % 8) (n / 8) (by omega) (by omega)
      rw [e] at hu
      rw [lessN_bit _ _ _ (covTo_lt ls ls.length) (by omega)]
      cases hb : R.testBit n
      · simp
      · cases hc : (covTo ls ls.length).testBit n
        · rw [hc, Bool.not_false] at hu; simp only [if_true, List.filter_cons, hu, List.filter_nil, Bool.not_false, Bool.and_true]
        · rw [hc, Bool.not_true] at hu; simp only [if_true, List.filter_cons, hu, List.filter_nil, Bool.not_true, Bool.and_false]
  exact key 64 (Nat.le_refl _)
theorem cells_mem (T : Nat) (x y : Nat) : ∀ n, n ≤ 64 → ((((x : Int), (y : Int)) ∈ cellsTo T n) ↔ x ≤ 7 ∧ y ≤ 7 ∧ cix x y < n ∧ T.testBit (cix x y) = true)
  | 0, _ => by simp [cellsTo]
  | n + 1, hn => by
    rw [cellsTo, List.mem_append, cells_mem T x y n (by omega)]
    constructor
    · rintro (⟨h1, h2, h3, h4⟩ | h)
      · exact ⟨h1, h2, by omega, h4⟩
      · split at h
        · rename_i hb
          simp only [List.mem_singleton, Prod.mk.injEq] at h
          have e1 : x = n % 8 := by omega
          have e2 : y = n / 8 := by omega
          have e : cix x y = n := by unfold cix; omega
          exact ⟨by omega, by omega, by omega, by rw [e]; exact hb⟩
        · simp at h
    · rintro ⟨h1, h2, h3, h4⟩
      by_cases e : cix x y = n
      · refine .inr ?_
        rw [e] at h4
        rw [if_pos h4]
        unfold cix at e
        simp only [List.mem_singleton, Prod.mk.injEq]
        omega
      · exact .inl ⟨h1, h2, by omega, h4⟩
/-- What the reference keeps: the cells that are taken, and the squares. -/
def frTo (l tk : List (Int × Int)) (a b : Nat) : Nat → Bool
  | 0 => true
  | j + 1 => frTo l tk a b j && hasCL l (qx a j : Nat) (qy b j : Nat) && !hasCL tk (qx a j : Nat) (qy b j : Nat)
def esS (l : List (Int × Int)) : Nat → List (Int × Int) × List (Int × Int)
  | 0 => ([], [])
  | k + 1 => if frTo l (esS l k).1 (dx l k).toNat (dy l k).toNat 4 then ((esS l k).1 ++ sqL (dx l k).toNat (dy l k).toNat, (esS l k).2 ++ [(dx l k, dy l k)]) else esS l k
theorem esS_len (l : List (Int × Int)) : ∀ k, (esS l k).1.length ≤ 4 * k ∧ (esS l k).2.length ≤ k
  | 0 => ⟨Nat.le_refl _, Nat.le_refl _⟩
  | k + 1 => by
    have := esS_len l k; rw [esS]; split
    · simp [sqL]; omega
    · omega
theorem sq_bit (a b x y : Nat) (ha : a ≤ 6) (hb : b ≤ 6) (hx : x ≤ 7) (hy : y ≤ 7) : (sofTo (sqL a b) 4).testBit (cix x y) = true ↔ ((x : Int), (y : Int)) ∈ sqL a b := by
  have e1 : ((a : Int) + 1).toNat = a + 1 := by omega
  have e2 : ((b : Int) + 1).toNat = b + 1 := by omega
  simp only [sofTo, sqL, dx, dy, List.getD_cons_zero, List.getD_cons_succ, Nat.testBit_or, Nat.testBit_two_pow, Int.toNat_natCast, e1, e2, Nat.zero_testBit, Bool.false_or, Bool.or_eq_true, decide_eq_true_eq, List.mem_cons, List.not_mem_nil, or_false, Prod.mk.injEq, cix]
  omega
theorem es_same (L0 : Nat) (hL : L0 < 18446744073709551616) : ∀ k, k ≤ (cellsTo L0 64).length →
    (esI L0 (cellsTo L0 64) k).2 = (esS (cellsTo L0 64) k).2 ∧ ∀ x y : Nat, hasC (esI L0 (cellsTo L0 64) k).1 x y = (hasCL (cellsTo L0 64) x y && !hasCL (esS (cellsTo L0 64) k).1 x y)
  | 0, _ => by
    refine ⟨rfl, fun x y => ?_⟩
    have h0 : hasCL (esS (cellsTo L0 64) 0).1 x y = false := rfl
    rw [h0]
    refine bool_ext ?_
    rw [Bool.not_false, Bool.and_true, hasCL_iff, cells_mem L0 x y 64 (Nat.le_refl _)]
    show hasC L0 x y = true ↔ _
    simp only [hasC, hasB, Bool.and_eq_true, decide_eq_true_eq]
    constructor
    · rintro ⟨⟨h1, h2⟩, h3⟩
      exact ⟨h1, h2, by unfold cix; omega, h3⟩
    · rintro ⟨h1, h2, h3, h4⟩
      exact ⟨⟨h1, h2⟩, h4⟩
  | k + 1, hk => by
    obtain ⟨h1, h2⟩ := es_same L0 hL k (by omega)
    obtain ⟨a, b, ha, hb, ha7, hb7⟩ := cellsTo_at L0 k (by omega)
    have hTL := esI_lt L0 hL (cellsTo L0 64) k
    rw [esI, esS, ha, hb]
    simp only [Int.toNat_natCast]
    obtain ⟨⟨T, o⟩, hI⟩ : ∃ s, esI L0 (cellsTo L0 64) k = s := ⟨_, rfl⟩
    obtain ⟨⟨tk, o'⟩, hS⟩ : ∃ s, esS (cellsTo L0 64) k = s := ⟨_, rfl⟩
    rw [hI] at h1 h2 hTL ⊢
    rw [hS] at h1 h2 ⊢
    dsimp only at h1 h2 hTL ⊢
    have hall : ∀ j, allTo T a b j = frTo (cellsTo L0 64) tk a b j := by
      intro j
      induction j with
      | zero => rfl
      | succ j ih => rw [allTo, frTo, ih, h2, Bool.and_assoc]
    rw [← hall 4]
    cases hf : allTo T a b 4
    · exact ⟨h1, h2⟩
    · obtain ⟨ha6, hb6⟩ := allTo_in hf
      simp only [if_true]
      refine ⟨by rw [h1], fun x y => ?_⟩
      have hs := sofTo_lt (sqL a b) (sqL_ok ha6 hb6) 4 (Nat.le_refl _)
      have hl : hasC (lessN T (sofTo (sqL a b) 4)) x y = (hasC T x y && !hasCL (sqL a b) x y) := by
        by_cases h7 : x ≤ 7 ∧ y ≤ 7
        · have hq : (sofTo (sqL a b) 4).testBit (cix x y) = hasCL (sqL a b) x y := bool_ext (by rw [hasCL_iff]; exact sq_bit a b x y ha6 hb6 h7.1 h7.2)
          simp only [hasC, hasB, h7.1, h7.2, decide_true, Bool.true_and]
          rw [lessN_bit _ _ _ hs (by unfold cix; omega), hq]
        · have h9 : ∀ U, hasC U x y = false := fun U => by
            unfold hasC
            by_cases e : x ≤ 7
            · have : ¬ y ≤ 7 := fun h => h7 ⟨e, h⟩
              simp [this]
            · simp [e]
          rw [h9, h9]; rfl
      have hm : hasCL (tk ++ sqL a b) x y = (hasCL tk x y || hasCL (sqL a b) x y) := bool_ext (by rw [hasCL_iff, List.mem_append, Bool.or_eq_true, hasCL_iff, hasCL_iff])
      rw [hl, hm, h2]
      cases hasCL (cellsTo L0 64) x y <;> cases hasCL tk x y <;> cases hasCL (sqL a b) x y <;> rfl
end Go.Proofs.Ytiecphhenpapoaa

namespace Go.Proofs.Ytiecphhenpapoaa
open Go.RowKit
set_option linter.unusedVariables false

theorem esZ_spec (n : Int) (ls : List Lk) (h : growB n ls = true) :
    esZ n ls = (fun l : List (Int × Int) => (esS l l.length).2) (uncZ (setZ (diamZ (n.toNat + 1))) (growZ n ls)) ∧ ∃ T, uncZ (setZ (diamZ (n.toNat + 1))) (growZ n ls) = cellsTo T 64 := by
  have h9 := h
  unfold growB at h9
  simp only [Bool.and_eq_true, inB_iff] at h9
  have hR := setZ_lt (diam_ok (n.toNat + 1) (by omega))
  have hu := unc_cells _ hR (growZ n ls)
  unfold esZ
  rw [h, hu]
  exact ⟨(es_same _ (lessN_lt _ _ hR) _ (Nat.le_refl _)).1, _, rfl⟩

set_option maxRecDepth 100000 in
set_option maxHeartbeats 8000000 in
theorem specEmptySquares_yes (n : Nat) (v : Value) (ls : List Lk) (B : Nat) (w : World) (h : RdF elDomino w B v ls) (hB : B ≤ w.heap.size) (hn : 1 ≤ n ∧ n ≤ 3) (hg : growB (n : Int) ls = true) :
    Calls Try.prog 46 #[.int .i64 (n : Int), v] w fun e w' => ∃ x, e = .returned x ∧ OwnF elCell w' w.heap.size x (esZ n ls) ∧ Below w.heap.size w w' := by
  have HGD := Lib.hid (fun V (hb : Below w.heap.size w V) => specGrow_any (n : Int) v ls B V (h.below (hb.mono hB)) (Nat.le_trans hB hb.size))
  rw [hg] at HGD
  obtain ⟨hz, T0, hT0⟩ := esZ_spec (n : Int) ls hg
  rw [hz]
  simp only [Int.toNat_natCast] at hT0 ⊢
  have HD : Hid (∀ V, Calls Try.prog 121 #[.int .i64 ((n : Int) + 1)] V fun e w' => ∃ u, e = .returned (.agg #[u]) ∧ RdI w' w'.heap.size u (diamZ (n + 1)) ∧ Below V.heap.size V w') := fun V => by
    have h9 := specDiamond_yes (n + 1) (by omega) V
    rw [show ((n + 1 : Nat) : Int) = (n : Int) + 1 by omega] at h9
    exact h9
  have HOK := Lib.hid (diam_ok (n + 1) (by omega))
  generalize growZ (n : Int) ls = gs at *
  generalize diamZ (n + 1) = zs at *
  have HUN := Lib.hid (fun V u x hu hx => specUncovered_any u x zs gs V.heap.size V hu hx (Nat.le_refl _) HOK.out)
  have HCA := Lib.hid (cellsTo_at T0)
  have hcl : (cellsTo T0 64).length ≤ 64 := by rw [cellsTo_len]; exact cntB_le _ _
  rw [← hT0] at HCA hcl
  generalize uncZ (setZ zs) gs = l at *
  have HST : Hid (∀ k, esS l (k + 1) = if frTo l (esS l k).1 (dx l k).toNat (dy l k).toNat 4 then ((esS l k).1 ++ sqL (dx l k).toNat (dy l k).toNat, (esS l k).2 ++ [(dx l k, dy l k)]) else esS l k) := fun k => rfl
  have HSL := Lib.hid (esS_len l)
  have HS0 : Hid (esS l 0 = ([], [])) := rfl
  obtain ⟨st, HE⟩ : ∃ st, Hid (st = esS l) := ⟨_, rfl⟩
  rw [← HE.out] at HST HSL HS0 ⊢
  have hn0 : (0 : Int) ≤ (n : Int) := by omega
  have hn3 : (n : Int) ≤ 3 := by omega
  have HA0 : Hid (Acc elCell w w.heap.size (w.alloc (.cells #[] 56)) (.slice (some ⟨w.heap.size, 0, none⟩) 0 0) []) := Acc.start w
  have HG0 : Hid (w.heap.size < (w.alloc (.cells #[] 56)).heap.size) := by unfold Hid; simp
  clear HE hz hT0 h hg
  go_enter Try.func46, Try.ntmps46
  go_upto_region 2 with (fail)
  generalize w.alloc (.cells #[] 56) = w0 at *
  go_wp2_with fail
  refine (HGD.out _ HA0.out.2.1).mono ?_
  rintro e w1 ⟨u1, rfl, ho1, hb1⟩
  have HO1 := Lib.hid ho1
  have HA1 := Lib.hid (HA0.out.below hb1)
  have HZ1 := Lib.hid hb1.size
  clear ho1 hb1
  go_wp2_with fail
  refine (HD.out _).mono ?_
  rintro e w2 ⟨u2, rfl, hr2, hb2⟩
  have HR2 := Lib.hid hr2
  have HO2 := Lib.hid (HO1.out.below hb2)
  have HA2 := Lib.hid (HA1.out.below hb2)
  have HZ2 := Lib.hid (Nat.le_trans HZ1.out hb2.size)
  clear hr2 hb2
  go_wp2_with fail
  refine (HUN.out _ u2 u1 HR2.out (HO2.out.rd okDomino)).mono ?_
  rintro e w3 ⟨u3, rfl, ho3, hb3⟩
  have HA3 := Lib.hid (HA2.out.below hb3)
  have HS3 := Lib.hid (Sep.newer (n := 0) (c := 0) ho3 (Nat.lt_of_lt_of_le HG0.out HZ2.out))
  have HO3 := Lib.hid (ho3.mono HA2.out.2.1.size)
  obtain ⟨A2, c2, rfl, q1, q2, _⟩ := RdD.of (E := elCell) rfl (fun _ => rfl) (ho3.rd okCell)
  unfold maxLen at q2
  have HT4 : Hid (Acc elCell w w.heap.size (w3.alloc (.cells #[] 56)) (.slice (some ⟨w3.heap.size, 0, none⟩) 0 0) []) := Acc.startAt HA3.out.2.1 (Nat.le_refl _) HA3.out.2.1.size
  have hal : Below w3.heap.size w3 (w3.alloc (.cells #[] 56)) := (Below.refl _ _).alloc (Nat.le_refl _) _
  have HA4 := Lib.hid (HA3.out.below hal)
  have HO4 := Lib.hid (HO3.out.below hal)
  have HS4 := Lib.hid (Sep.fresh (n := 0) (c := 0) HO3.out (Nat.le_refl _))
  have HS5 := Lib.hid (Sep.fresh (n := 0) (c := 0) HA3.out.1 (Nat.le_refl _))
  clear hb3 ho3 hal
  go_upto_region 7 with (fail)
  generalize w3.alloc (.cells #[] 56) = w4 at *
  go_wp2_with fail
  go_loopw [5, 9, 10] (fun o t i wr => ∃ (k : Nat) (x y : Value), k ≤ l.length ∧ i = .int .i64 (k : Int) ∧ x = o ∧ y = t ∧ Hid (Acc elCell w w.heap.size wr x (st k).2) ∧ Hid (Acc elCell w w.heap.size wr y (st k).1) ∧ Hid (OwnF elCell wr w.heap.size (.slice A2 l.length c2) l) ∧ Hid (Sep x (.slice A2 l.length c2)) ∧ Hid (Sep y (.slice A2 l.length c2)) ∧ Hid (Sep y x)) (fun _ _ i _ => l.length - (intOf i).toNat)
  case atStart => exact ⟨0, _, _, Nat.zero_le _, rfl, rfl, rfl, by rw [HS0.out]; exact HA4, by rw [HS0.out]; exact HT4, HO4, HS3, HS4, HS5⟩
  case round =>
    obtain ⟨k, x, y, hk, rfl, rfl, rfl, HA, HT, HO, HSX, HSY, HSQ⟩ := hrel
    obtain ⟨⟨tk, ys⟩, HSK⟩ : ∃ s, Hid (st k = s) := ⟨_, rfl⟩
    have hlen := HSL.out k
    have HTS := Lib.hid (HST.out k)
    rw [HSK.out] at HA HT hlen HTS
    dsimp only at HA HT hlen HTS
    obtain ⟨hlen1, hlen2⟩ := hlen
    obtain ⟨A1, ca, hv, q3, q4, _⟩ := HA.out.1.rd okCell
    subst hv
    unfold maxLen at q4
    obtain ⟨A3, ct, hv, q5, q6, _⟩ := HT.out.1.rd okCell
    subst hv
    unfold maxLen at q6
    by_cases hlt : k < l.length
    · have ht : decide ((k : Int) < (l.length : Int)) = true := by simp only [decide_eq_true_eq]; omega
      obtain ⟨A9, c9, he, _, _, G9⟩ := RdD.of (E := elCell) rfl (fun _ => rfl) (HO.out.rd okCell)
      simp only [Value.slice.injEq, true_and] at he
      obtain ⟨rfl, rfl⟩ := he
      obtain ⟨ad, rfl, hbl, hx, hy⟩ := G9.out k hlt
      obtain ⟨a, b, hea, heb, ha7, hb7⟩ := HCA.out k hlt
      rw [hea, heb] at HTS
      rw [hea] at hx
      rw [heb] at hy
      simp only [Int.toNat_natCast] at HTS
      have hk0 : (0 : Int) ≤ (k : Int) := by omega
      have hk1 : (k : Int) < (l.length : Int) := by omega
      clear hbl G9 hea heb
      go_upto_region 11 with (fail)
      obtain ⟨V, hV, k9, hbV⟩ := one_alloc wr (.cells #[.int .i64 (a : Int), .int .i64 (b : Int)] 56)
      rw [← hV]
      obtain ⟨vn, hvn⟩ : ∃ vn, wr.heap.size = vn := ⟨_, rfl⟩
      have HAV := Lib.hid (HA.out.below hbV)
      have HTV := Lib.hid (HT.out.below hbV)
      have HOV := Lib.hid (HO.out.below hbV)
      rw [hvn] at k9 ⊢
      have HKV := Lib.hid k9
      have e0 : V.cell? ⟨vn, 0, none⟩ = some (.int .i64 (a : Int)) := by rw [blk_cell k9]; rfl
      have e1 : V.cell? ⟨vn, 1, none⟩ = some (.int .i64 (b : Int)) := by rw [blk_cell k9]; rfl
      clear hV k9 hbV hx hy
      go_upto_region 12 with (fail)
      obtain ⟨sn, hsn⟩ : ∃ sn, V.heap.size = sn := ⟨_, rfl⟩
      generalize hX : World.alloc V _ = X
      have HLX : Hid (OwnF elCell X sn (.slice (some ⟨sn, 0, none⟩) 4 4) (sqL a b)) := by
        unfold Hid; rw [← hX, ← hsn]; exact litF (E := elCell) V _ (sqL a b) 4 rfl (by decide) rfl okCell.len
      have hbX : Below V.heap.size V X := by rw [← hX]; exact (Below.refl _ _).alloc (Nat.le_refl _) _
      have HAX := Lib.hid (HAV.out.below hbX)
      have HTX := Lib.hid (HTV.out.below hbX)
      have HOX := Lib.hid (HOV.out.below hbX)
      have HKX := Lib.hid (blk_below HKV.out hbX)
      have HSF : Hid (Sep (.slice A1 ys.length ca) (.slice (some ⟨sn, 0, none⟩) 4 4)) := (Sep.fresh HAV.out.1 (by rw [hsn]; exact Nat.le_refl _)).symm
      have HSN : Hid (w.heap.size ≤ sn) := by rw [← hsn]; exact HAV.out.2.1.size
      rw [hsn]
      clear hX hbX e0 e1
      go_wp2_with fail
      have HQT : Hid (∀ j, frTo l tk a b (j + 1) = (frTo l tk a b j && hasCL l (qx a j : Nat) (qy b j : Nat) && !hasCL tk (qx a j : Nat) (qy b j : Nat))) := fun j => rfl
      have HQ0 : Hid (frTo l tk a b 0 = true) := rfl
      have HQS := Lib.hid (sqL_at a b)
      have HSL4 : Hid ((sqL a b).length = 4) := rfl
      obtain ⟨al, HAL⟩ : ∃ al, Hid (al = frTo l tk a b) := ⟨_, rfl⟩
      rw [← HAL.out] at HQT HQ0 HTS
      clear HAL
      go_loopw [13, 14] (fun f j wi => ∃ i : Nat, i ≤ 4 ∧ j = .int .i64 (i : Int) ∧ f = .bool (al i) ∧ Hid (Below X.heap.size X wi)) (fun _ j _ => 4 - (intOf j).toNat)
      case atStart => exact ⟨0, Nat.zero_le _, rfl, by rw [HQ0.out], Below.refl _ _⟩
      case round =>
        obtain ⟨i, hi, rfl, rfl, HBI⟩ := hrel
        by_cases hi4 : i < 4
        · have hti : decide ((i : Int) < 4) = true := by simp only [decide_eq_true_eq]; omega
          have hi0 : (0 : Int) ≤ (i : Int) := by omega
          have hi1 : (i : Int) < 4 := by omega
          obtain ⟨_, _, he, _, _, G9⟩ := RdD.of (E := elCell) rfl (fun _ => rfl) ((HLX.out.below HBI.out).rd okCell)
          simp only [Value.slice.injEq] at he
          obtain ⟨rfl, h44, rfl⟩ := he
          clear h44
          obtain ⟨ad, had, hbl, hx, hy⟩ := G9.out i (by rw [HSL4.out]; exact hi4)
          simp only [Option.some.injEq] at had
          subst had
          rw [(HQS.out i hi4).1] at hx
          rw [(HQS.out i hi4).2] at hy
          have HTI := Lib.hid (HQT.out i)
          generalize qx a i = x at *
          generalize qy b i = y at *
          have HH1 := Lib.hid (l10Has_any _ l x y _ wr ((HOX.out.below HBI.out).rd okCell) (Nat.le_refl _))
          have HH2 := Lib.hid (fun V hb => l10Has_any _ tk x y _ V (((HTX.out.below HBI.out).below hb).1.rd okCell) (Nat.le_refl _))
          generalize hasCL l x y = r1 at *
          generalize hasCL tk x y = r2 at *
          generalize al i = ai at *
          have had : (⟨sn, 0, none⟩ : Addr).add (i * 2) = ⟨sn, i * 2, none⟩ := by
            unfold Addr.add; split
            · rename_i h0; rw [h0]
            · simp
          rw [had] at hx hy
          dsimp only at hx hy
          have HXY := Lib.hid (And.intro hx hy)
          have HBL : Hid (sn < wr.heap.size) := hbl
          clear hbl G9
          cases ai
          · have HTF : Hid (al (i + 1) = false) := by unfold Hid; rw [HTI.out]; rfl
            go_wp2_with fail
            go_roundw
            case rel => exact ⟨i + 1, by omega, by go_num, by rw [HTF.out], HBI⟩
            case measure => simp [intOf]; omega
          · go_wp2_with fail
            refine HH1.out.mono ?_
            rintro e w8 ⟨rfl, hb8⟩
            have HB8 := Lib.hid (HBI.out.trans (hb8.mono HBI.out.size))
            have HH3 := Lib.hid (HH2.out w8 hb8)
            have hx8 := (hb8.cell (p := ⟨sn, i * 2, none⟩) HBL.out).trans hx
            have hy8 := (hb8.cell (p := ⟨sn, i * 2 + 1, none⟩) HBL.out).trans hy
            clear hb8 hx hy
            cases r1
            · have HTF : Hid (al (i + 1) = false) := by unfold Hid; rw [HTI.out]; rfl
              go_wp2_with fail
              go_roundw
              case rel => exact ⟨i + 1, by omega, by go_num, by rw [HTF.out], HB8⟩
              case measure => simp [intOf]; omega
            · have HTF : Hid (al (i + 1) = !r2) := by unfold Hid; rw [HTI.out]; rfl
              go_wp2_with fail
              refine HH3.out.mono ?_
              rintro e w9 ⟨rfl, hb9⟩
              have HB9 := Lib.hid (HB8.out.trans (hb9.mono HB8.out.size))
              clear hb9 hx8 hy8
              go_wp2_with fail
              go_roundw
              case rel => exact ⟨i + 1, by omega, by go_num, by rw [HTF.out], HB9⟩
              case measure => simp [intOf]; omega
        · have HI4 : Hid (i = 4) := by unfold Hid; omega
          have hti : decide ((i : Int) < 4) = false := by simp only [decide_eq_false_iff_not]; omega
          have HAI := Lib.hid (HAX.out.below HBI.out)
          have HTI := Lib.hid (HTX.out.below HBI.out)
          have HOI := Lib.hid (HOX.out.below HBI.out)
          have HKI := Lib.hid (blk_below HKX.out HBI.out)
          have HLI := Lib.hid (HLX.out.below HBI.out)
          have e0 : wr.cell? ⟨vn, 0, none⟩ = some (.int .i64 (a : Int)) := by rw [blk_cell HKI.out]; rfl
          have e1 : wr.cell? ⟨vn, 1, none⟩ = some (.int .i64 (b : Int)) := by rw [blk_cell HKI.out]; rfl
          obtain rfl : i = 4 := HI4.out
          generalize hal : al 4 = ai at *
          cases ai
          · have HT2 : Hid (st (k + 1) = (tk, ys)) := HTS.out.trans (by rw [← HSK.out]; rfl)
            go_wp2_with fail
            go_roundw
            case rel => exact ⟨k + 1, _, _, by omega, by go_num, rfl, rfl, by rw [HT2.out]; exact HAI, by rw [HT2.out]; exact HTI, HOI, HSX, HSY, HSQ⟩
            case measure => simp [intOf]; omega
          · have HT2 : Hid (st (k + 1) = (tk ++ sqL a b, ys ++ [((a : Int), (b : Int))])) := by unfold Hid; rw [HTS.out]; rfl
            have hl4 : (sqL a b).length = 4 := HSL4.out
            go_wp2_with (at_builtin; first
              | (refine wpList_push okCell rfl _ _ rfl HAI.out rfl ((a : Int), (b : Int)) _ rfl _ rfl rfl (by omega) ?_; intro v10 w10 HA10 HG10;
                 have HP1 := Lib.hid (HSX.out.push HOI.out HG10.out); have HP2 := Lib.hid (HSQ.out.symm.push HTI.out.1 HG10.out); have HP3 := Lib.hid (HSF.out.push (HLI.out.mono HSN.out) HG10.out);
                 have HT10 : Hid (Acc elCell w w.heap.size w10 (.slice A3 tk.length ct) tk) := ⟨HP2.out.1, HA10.out.2.1, Nat.le_refl _, HA10.out.2.1.size⟩)
              | (refine wpList_pushSrcF okCell rfl _ _ rfl HT10.out rfl (sqL a b) _ _ (HP3.out.1.rd okCell) rfl (by rw [HSL4.out]; omega) ?_; intro v11 w11 HT11 HG11;
                 have HP4 := Lib.hid (HP2.out.2.symm.pushS HA10.out.1 HG11.out); have HP5 := Lib.hid (HSY.out.pushS HP1.out.1 HG11.out);
                 have HA11 : Hid (Acc elCell w w.heap.size w11 v10 (ys ++ [((a : Int), (b : Int))])) := ⟨HP4.out.1, HT11.out.2.1, Nat.le_refl _, HT11.out.2.1.size⟩))
            go_roundw
            case rel => exact ⟨k + 1, _, _, by omega, by go_num, rfl, rfl, by rw [HT2.out]; exact HA11, by rw [HT2.out]; exact HT11, HP5.out.1, HP1.out.2, HP5.out.2, HP4.out.2⟩
            case measure => simp [intOf]; omega
    · obtain rfl : k = l.length := by omega
      have ht : decide ((l.length : Int) < (l.length : Int)) = false := by simp
      go_wp2_with fail
      go_ret
      exact ⟨_, rfl, by rw [HSK.out]; exact HA.out.1, HA.out.2.1⟩

set_option maxRecDepth 100000 in
set_option maxHeartbeats 2000000 in
theorem specEmptySquares_any (n : Int) (v : Value) (ls : List Lk) (B : Nat) (w : World) (h : RdF elDomino w B v ls) (hB : B ≤ w.heap.size) :
    Calls Try.prog 46 #[.int .i64 n, v] w fun e w' => ∃ x, e = .returned x ∧ OwnF elCell w' w.heap.size x (esZ n ls) ∧ Below w.heap.size w w' := by
  cases hf : growB n ls
  · have HZ : Hid (esZ n ls = []) := by unfold Hid esZ; rw [hf]; rfl
    rw [HZ.out]
    have HGD := Lib.hid (fun V (hb : Below w.heap.size w V) => specGrow_any n v ls B V (h.below (hb.mono hB)) (Nat.le_trans hB hb.size))
    rw [hf] at HGD
    have HA0 : Hid (Acc elCell w w.heap.size (w.alloc (.cells #[] 56)) (.slice (some ⟨w.heap.size, 0, none⟩) 0 0) []) := Acc.start w
    clear h hf
    go_enter Try.func46, Try.ntmps46
    go_upto_region 2 with (fail)
    generalize w.alloc (.cells #[] 56) = w0 at *
    go_wp2_with fail
    refine (HGD.out _ HA0.out.2.1).mono ?_
    rintro e w1 ⟨u1, rfl, ho1, hb1⟩
    have HA1 := Lib.hid (HA0.out.below hb1)
    clear ho1 hb1
    go_wp2_with fail
    go_ret
    exact ⟨_, rfl, HA1.out.1, HA1.out.2.1⟩
  · have h9 := hf
    unfold growB at h9
    simp only [Bool.and_eq_true, inB_iff] at h9
    obtain ⟨n, rfl⟩ := Int.eq_ofNat_of_zero_le (show 0 ≤ n by omega)
    exact specEmptySquares_yes n v ls B w h hB (by omega) hf
end Go.Proofs.Ytiecphhenpapoaa
