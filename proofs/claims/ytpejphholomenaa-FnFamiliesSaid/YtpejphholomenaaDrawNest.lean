/- The reference's drawn starts and ends: l20Nested, DrawNested. -/
import Derived.Test.YtpejphholomenaaCur
import Derived.Test.YtpejphholomenaaCurOwn
import Derived.Test.YtpejphholomenaaDuoSpot
import Derived.Test.YtpejphholomenaaOsP
import Derived.OwnWalk
namespace Go.Proofs.Ytpejphholomenaa
open Go.RowKit
set_option linter.unusedVariables false

def nA (m : Int) (k : Nat) : List (Int × Int) := (List.range k).map fun (i : Nat) => ((i : Int), m - 1 - (i : Int))
def nB (m : Int) (k : Nat) : List (Int × Int) := (List.range k).map fun (i : Nat) => (5 - (m - 1 - (i : Int)), 5 - (i : Int))
/-- Behind j rounds of the second loop. -/
def nS (m : Int) (a b : Int) (k j : Nat) : List (Int × Int) := (List.range k).map fun (i : Nat) => if i < j then (5 - (m - 1 - (i : Int)) - a, 5 - (i : Int) - b) else (5 - (m - 1 - (i : Int)), 5 - (i : Int))
theorem nA_length (m : Int) (k : Nat) : (nA m k).length = k := by simp [nA]
theorem nB_length (m : Int) (k : Nat) : (nB m k).length = k := by simp [nB]
theorem nS_length (m a b : Int) (k j : Nat) : (nS m a b k j).length = k := by simp [nS]
theorem nA_succ (m : Int) (k : Nat) : nA m (k + 1) = nA m k ++ [((k : Int), m - 1 - (k : Int))] := by simp [nA, List.range_succ]
theorem nB_succ (m : Int) (k : Nat) : nB m (k + 1) = nB m k ++ [(5 - (m - 1 - (k : Int)), 5 - (k : Int))] := by simp [nB, List.range_succ]
theorem nS_zero (m a b : Int) (k : Nat) : nS m a b k 0 = nB m k := by simp [nS, nB]
theorem nS_set (m a b : Int) (k j : Nat) (h : j < k) : (nS m a b k j).set j (5 - (m - 1 - (j : Int)) - a, 5 - (j : Int) - b) = nS m a b k (j + 1) := by
  apply List.ext_getElem
  · simp [nS]
  · intro i h1 h2
    rw [List.getElem_set]
    by_cases e : j = i
    · subst e; simp [nS]
    · by_cases e2 : i < j
      · simp [nS, e, e2, show i < j + 1 by omega]
      · simp [nS, e, e2, show ¬ i < j + 1 by omega]
theorem nS_at (m a b : Int) (k j : Nat) (h : j < k) : dx (nS m a b k j) j = 5 - (m - 1 - (j : Int)) ∧ dy (nS m a b k j) j = 5 - (j : Int) := by simp [dx, dy, nS, h]
/-- Two values in blocks of their own. -/
def Dist (u v : Value) : Prop := ∀ k, u.ownBlock = some k → v.ownBlock = some k → False
theorem push_first {E' : El (Int × Int)} {wr w' : World} {lo : Nat} {u u' v : Value} {ys : List (Int × Int)} (hB : OwnF E' wr lo v ys) (hD : Dist u v) (G : Grew wr w' u u') : OwnF E' w' lo v ys ∧ Dist u' v := by
  obtain ⟨hg, g, h1, h2, h3⟩ := G
  refine ⟨hB.kept hg fun k hk e => hD k e.symm hk, fun k hk hv => ?_⟩
  rw [h1] at hk
  simp only [Option.some.injEq] at hk
  subst hk
  rcases h2 with h2 | h2
  · exact hD g h2 hv
  · have := hB.lt g hv; omega
theorem Dist.symm {u v : Value} (h : Dist u v) : Dist v u := fun k h1 h2 => h k h2 h1

def dnA (m e1 e2 : Int) : List (Int × Int) := (List.range m.toNat).map fun (i : Nat) => ((i : Int) + (if (i : Int) = m - 1 then e1 else 0), m - 1 - (i : Int) + (if (i : Int) = 0 then e2 else 0))
def dnB (m a b : Int) : List (Int × Int) := (List.range m.toNat).map fun (i : Nat) => (5 - (m - 1 - (i : Int)) - a, 5 - (i : Int) - b)
structure NestOk (m a b e1 e2 : Int) : Prop where
  m1 : 1 ≤ m
  m3 : m ≤ 3
  a0 : 0 ≤ a
  a2 : a ≤ 2
  b0 : 0 ≤ b
  b2 : b ≤ 2
  e1 : (m < 3 ∧ e1 = 1) ∨ e1 = 0
  e2 : (m < 3 ∧ e2 = 1) ∨ e2 = 0
def NestDraw (w : World) (lo q : Nat) (v : Value) (n : Nat) (e : Ending) (w' : World) : Prop :=
  ∃ (m a b e1 e2 : Int) (u1 u2 : Value), NestOk m a b e1 e2 ∧ e = .returned (.tuple #[u1, u2]) ∧ OwnF elSpot w' lo u1 (dnA m e1 e2) ∧ OwnF elSpot w' lo u2 (dnB m a b) ∧ Cur w' q v n ∧ w.grownBy w' (some q)

/-- What stands behind the loops. -/
def NSt (w w' : World) (q : Nat) (v : Value) (n : Nat) (u1 : Value) (xs : List (Int × Int)) (u2 : Value) (ys : List (Int × Int)) : Prop :=
  OwnF elSpot w' w.heap.size u1 xs ∧ OwnF elSpot w' w.heap.size u2 ys ∧ Dist u1 u2 ∧ Cur w' q v n ∧ w.grownBy w' (some q)
theorem NSt.draw {w w' w2 : World} {q n : Nat} {v u1 u2 : Value} {xs ys : List (Int × Int)} (H : NSt w w' q v n u1 xs u2 ys) (hq : q < w.heap.size) (hc : Cur w2 q v n) (hg : w'.grownBy w2 (some q)) : NSt w w2 q v n u1 xs u2 ys := by
  obtain ⟨h1, h2, h3, h4, h5⟩ := H
  exact ⟨h1.kept hg fun k hk e => by have := (h1.lt k hk).1; simp at e; omega, h2.kept hg fun k hk e => by have := (h2.lt k hk).1; simp at e; omega, h3, hc, h5.trans hg⟩
theorem NSt.grow {w w' w2 : World} {q n : Nat} {v u1 u2 : Value} {xs xs' ys : List (Int × Int)} (H : NSt w w' q v n u1 xs u2 ys) (hq : q < w.heap.size) (h : OwnF elSpot w2 w.heap.size u1 xs') (hg : w'.grownBy w2 u1.ownBlock) : NSt w w2 q v n u1 xs' u2 ys := by
  obtain ⟨h1, h2, h3, h4, h5⟩ := H
  exact ⟨h, h2.kept hg fun k hk e => h3 k e.symm hk, h3, h4.grown hg fun k hk => by have := (h1.lt k hk).1; omega, grownBy_more h5 hg fun k hk => .inl (h1.lt k hk).1⟩
/-- One number of one point is written. -/
theorem NSt.put {w w' : World} {q n g cap i j : Nat} {v u2 : Value} {xs ys : List (Int × Int)} {x x' : Int × Int} {z : Int} (H : NSt w w' q v n (.slice (some ⟨g, 0, none⟩) xs.length cap) xs u2 ys) (hq : q < w.heap.size) (hx : xs[j]? = some x) (hi : i < 2) (he : duoC x' = (duoC x).set i (.int .i64 z)) :
    NSt w (w'.setCell ⟨g, j * 2 + i, none⟩ (.int .i64 z)) q v n (.slice (some ⟨g, 0, none⟩) xs.length cap) (xs.set j x') u2 ys := by
  obtain ⟨s1, s2, s3⟩ := OwnF.store okSpot (x' := x') (u := .int .i64 z) H.1 hx (i := i) hi he
  have hl : (xs.set j x').length = xs.length := List.length_set ..
  rw [hl] at s1
  exact H.grow hq s1 s2
theorem NSt.get {w w' : World} {q n g cap i j : Nat} {v u2 : Value} {xs ys : List (Int × Int)} {x : Int × Int} {u : Value} (H : NSt w w' q v n (.slice (some ⟨g, 0, none⟩) xs.length cap) xs u2 ys) (hx : xs[j]? = some x) (hi : i < 2) (he : (duoC x)[i]? = some u) : w'.cell? ⟨g, j * 2 + i, none⟩ = some u ∧ w'.frozen? ⟨g, j * 2 + i, none⟩ = false := by
  have hj : j < xs.length := (List.getElem?_eq_some_iff.1 hx).1
  refine ⟨?_, World.ownsRow.frozenAt H.1 _⟩
  have h := World.ownsRow.cellAt H.1 (j * 2 + i) (by show _ < xs.length * 2; omega)
  rw [h, show j * 2 + i = j * elSpot.s + i from rfl, flat_get okSpot.len xs j i x hx hi]; exact he

set_option maxRecDepth 100000 in
set_option maxHeartbeats 2000000 in
theorem l20Nested_any (q n : Nat) (v : Value) (w : World) (hc : Cur w q v n) :
    Calls Try.prog 65 #[.pointer (some ⟨q, 0, none⟩)] w (NestDraw w w.heap.size q v n) := by
  have hq := hc.lt
  go_enter Try.func65, Try.ntmps65
  go_wp2_with fail
  refine (below_any q n v 3 w hc (by omega) (by omega)).mono ?_
  rintro e w1 ⟨r, ⟨r0, r1⟩, rfl, hc1, hg1⟩
  have hs1 := hg1.size
  go_wp2_with fail
  go_loopw [5, 6, 7] (fun u v' k wr => ∃ (j : Nat), (j : Int) ≤ 1 + r ∧ k = .int .i64 (j : Int) ∧ Hid (OwnF elSpot wr w.heap.size u (nA (1 + r) j)) ∧ Hid (OwnF elSpot wr w.heap.size v' (nB (1 + r) j)) ∧ Hid (Dist u v') ∧ Cur wr q v n ∧ w.grownBy wr (some q)) (fun _ _ k _ => 4 - (intOf k).toNat)
  case atStart =>
    have hb1 : OwnF elSpot (w1.alloc (.cells #[] 32)) w.heap.size (.slice (some ⟨w1.heap.size, 0, none⟩) 0 0) [] := OwnF.empty hs1
    have hb2 : OwnF elSpot ((w1.alloc (.cells #[] 32)).alloc (.cells #[] 32)) w.heap.size (.slice (some ⟨(w1.alloc (.cells #[] 32)).heap.size, 0, none⟩) 0 0) [] := OwnF.empty (by simp; omega)
    refine ⟨0, by omega, rfl, hb1.below ((Below.refl _ _).alloc (Nat.le_refl _) _), by (unfold Hid nB; simpa using hb2), fun k h1 h2 => by simp [Value.ownBlock] at h1 h2; omega, ?_, ?_⟩
    · exact (hc1.grown (grownBy_alloc _ _ none) fun k e => by simp at e).grown (grownBy_alloc _ _ none) fun k e => by simp at e
    · exact grownBy_more (grownBy_more hg1 (grownBy_alloc _ _ none) fun k e => by simp at e) (grownBy_alloc _ _ none) fun k e => by simp at e
  case round =>
    obtain ⟨j, hj, rfl, HA, HB, HD, hcr, hgr⟩ := hrel
    by_cases hlt : (j : Int) < 1 + r
    · have hszr := hgr.size
      have HA1 := Lib.hid (acc0 HA.out (show w.heap.size ≤ wr.heap.size by omega))
      have hla : (nA (1 + r) j).length = j := nA_length _ _
      have hlb : (nB (1 + r) j).length = j := nB_length _ _
      have HLA := Lib.hid hla; have HLB := Lib.hid hlb
      clear hla hlb
      go_wp2_with (at_builtin; first
        | (refine wpList_push okSpot rfl _ _ rfl HA1.out rfl ((j : Int), 1 + r - 1 - (j : Int)) _ rfl _ rfl (by simp) (by rw [HLA.out]; omega) ?_; intro u2 w2 HA2 HG2; have HP := Lib.hid (push_first HB.out HD.out HG2.out); have HB1 := Lib.hid (acc0 HP.out.1 (Nat.le_trans hszr HG2.out.1.size)); have hsw2 : wr.heap.size ≤ w2.heap.size := HG2.out.1.size)
        | (refine wpList_push okSpot rfl _ _ rfl HB1.out rfl (5 - (1 + r - 1 - (j : Int)), 5 - (j : Int)) _ rfl _ rfl (by simp) (by rw [HLB.out]; omega) ?_; intro u3 w3 HB2 HG3))
      have hg2 : w.grownBy w2 (some q) := grownBy_more hgr HG2.out.1 fun k hk => .inl (HA.out.lt k hk).1
      have hc2 := hcr.grown HG2.out.1 fun k hk => by have := (HA.out.lt k hk).1; omega
      have hP3 := push_first HA2.out.1 HP.out.2.symm HG3.out
      go_roundw
      case rel =>
        refine ⟨j + 1, by omega, by go_num, ?_, ?_, hP3.2.symm, hc2.grown HG3.out.1 fun k hk => ?_, grownBy_more hg2 HG3.out.1 fun k hk => .inl (HB.out.lt k hk).1⟩
        · rw [nA_succ]; exact hP3.1
        · rw [nB_succ]; exact HB2.out.1
        · have := (HB.out.lt k hk).1; omega
      case measure => simp [intOf]; omega
    · have HJ : Hid ((j : Int) = 1 + r) := by unfold Hid; omega
      go_wp2_with fail
      refine (below_any q n v 3 wr hcr (by omega) (by omega)).mono ?_
      rintro e w2 ⟨a, ⟨a0, a1⟩, rfl, hc2, hg2⟩
      have hsz2 := hg2.size
      have hgw2 := hgr.trans hg2
      have HA2 := Lib.hid (HA.out.kept hg2 fun k hk e => by have := (HA.out.lt k hk).1; simp at e; omega)
      have HB2 := Lib.hid (HB.out.kept hg2 fun k hk e => by have := (HB.out.lt k hk).1; simp at e; omega)
      go_wp2_with fail
      refine (below_any q n v 3 w2 hc2 (by omega) (by omega)).mono ?_
      rintro e w3 ⟨b, ⟨b0, b1⟩, rfl, hc3, hg3⟩
      have hgw3 := Lib.hid (hgw2.trans hg3)
      have HA3 := Lib.hid (HA2.out.kept hg3 fun k hk e => by have := (HA2.out.lt k hk).1; simp at e; omega)
      have HB3 := Lib.hid (HB2.out.kept hg3 fun k hk e => by have := (HB2.out.lt k hk).1; simp at e; omega)
      obtain ⟨g, cap, hv, hlo, hgl⟩ := World.ownsRow.form HB3.out (by rw [nB_length]; omega)
      obtain ⟨A0, c0, e0, p1, p2, _⟩ := HB3.out.rd okSpot
      rw [hv] at e0
      obtain rfl : cap = c0 := by simp only [Value.slice.injEq] at e0; exact e0.2.2
      unfold maxLen at p2
      rw [nB_length] at p1 hv
      subst hv
      clear HA2 HB2 HA HB e0 hg2 hg3 hgr hgw2
      go_wp2_with fail
      go_loopw [10] (fun i wr' => ∃ k : Nat, k ≤ j ∧ i = .int .i64 (k : Int) ∧ Hid (OwnF elSpot wr' w.heap.size (.slice (some ⟨g, 0, none⟩) (nS (1 + r) a b j k).length cap) (nS (1 + r) a b j k)) ∧ w3.grownBy wr' (some g)) (fun i _ => j - (intOf i).toNat)
      case atStart => exact ⟨0, Nat.zero_le _, rfl, by (unfold Hid; rw [nS_length, nS_zero]; exact HB3.out), World.grownBy.refl w3 _⟩
      case round =>
        obtain ⟨k, hk, rfl, HO, hgk⟩ := hrel
        by_cases hlt2 : (k : Int) < 1 + r
        · have hkj : k < j := by have := HJ.out; omega
          obtain ⟨d0, d1, dfr, dt⟩ := duoStore okSpot rfl (fun _ => rfl) HO.out (j := k) (by rw [nS_length]; exact hkj)
          obtain ⟨x1, x2⟩ := nS_at (1 + r) a b j k hkj
          rw [x1] at d0
          rw [x2] at d1
          obtain ⟨t1, t2⟩ := dt (5 - (1 + r - 1 - (k : Int)) - a) (5 - (k : Int) - b)
          rw [nS_set _ _ _ _ _ hkj] at t1
          have HN := Lib.hid t1
          have HG := Lib.hid (hgk.trans t2)
          have hk0 : (0 : Int) ≤ (k : Int) := by omega
          have hk1 : (k : Int) < (j : Int) := by omega
          clear dt t1 t2 x1 x2
          go_wp2_with fail
          go_roundw
          case rel => exact ⟨k + 1, by omega, by go_num, HN, HG.out⟩
          case measure => simp [intOf]; omega
        · have hkj : k = j := by have := HJ.out; omega
          obtain rfl : k = j := hkj
          have HN0 : Hid (NSt w wr q v n u5 (nA (1 + r) k) (.slice (some ⟨g, 0, none⟩) k cap) (nS (1 + r) a b k k)) := by
            have hx := HO.out
            rw [nS_length] at hx
            refine ⟨HA3.out.kept hgk fun x hx e => HD.out x hx e.symm, hx, HD.out, hc3.grown hgk fun x hx => by simp at hx; omega, grownBy_more hgw3.out hgk fun x hx => .inl (by simp at hx; omega)⟩
          have HJ2 := HJ.out
          clear HA3 HB3 HD hc3 hgw3 HO hgk hcr HJ hc2 hc1 hg1
          rcases (show r = 0 ∨ r = 1 ∨ r = 2 by omega) with rfl | rfl | rfl
          · obtain rfl : k = 1 := by omega
            have HN1 : Hid (NSt w wr q v n u5 [((0 : Int), (0 : Int))] (.slice (some ⟨g, 0, none⟩) 1 cap) (dnB 1 a b)) := by
              have hx := HN0.out
              exact hx
            clear HN0 HJ2
            obtain ⟨ga, ca, hva, _, _⟩ := World.ownsRow.form HN1.out.1 (by simp)
            subst hva
            obtain ⟨A9, c9, e9, w1', w2', _⟩ := HN1.out.1.rd okSpot
            obtain rfl : ca = c9 := by simp only [Value.slice.injEq] at e9; exact e9.2.2
            unfold maxLen at w2'
            clear e9
            simp only [List.length_cons, List.length_nil] at w1' HN1
            go_wp2_with fail
            refine (once_any q n v 2 wr HN1.out.2.2.2.1 (by omega) (by omega)).mono ?_
            rintro e w4 ⟨c, rfl, hc4, hg4⟩
            have HN2 := Lib.hid (HN1.out.draw hq hc4 hg4)
            clear hc4 hg4 HN1
            cases c
            · skip
              go_wp2_with fail
              refine (once_any q n v 2 _ HN2.out.2.2.2.1 (by omega) (by omega)).mono ?_
              rintro e w6 ⟨c, rfl, hc6, hg6⟩
              have HN4 := Lib.hid (HN2.out.draw hq hc6 hg6)
              clear hc6 hg6
              cases c
              · skip
                go_wp2_with fail
                go_ret2
                exact ⟨1, a, b, 0, 0, _, _, ⟨by omega, by omega, a0, by omega, b0, by omega, by omega, by omega⟩, rfl, HN4.out.1, HN4.out.2.1, HN4.out.2.2.2.1, HN4.out.2.2.2.2⟩
              · skip
                obtain ⟨t3, t4⟩ := HN4.out.get (i := 1) (j := 0) rfl (by omega) rfl
                have HN5 := Lib.hid (HN4.out.put (z := 1) (x' := (0, 1)) hq (i := 1) (j := 0) rfl (by omega) rfl)
                simp only [show 0 * 2 + 1 = 1 from rfl] at t3 t4 HN5
                go_wp2_with fail
                go_ret2
                exact ⟨1, a, b, 0, 1, _, _, ⟨by omega, by omega, a0, by omega, b0, by omega, by omega, by omega⟩, rfl, HN5.out.1, HN5.out.2.1, HN5.out.2.2.2.1, HN5.out.2.2.2.2⟩
            · skip
              obtain ⟨t1, t2⟩ := HN2.out.get (i := 0) (j := 0) rfl (by omega) rfl
              have HN3 := Lib.hid (HN2.out.put (z := 1) (x' := (1, 0)) hq (i := 0) (j := 0) rfl (by omega) rfl)
              simp only [show 0 * 2 + 0 = 0 from rfl] at t1 t2 HN3
              go_wp2_with fail
              refine (once_any q n v 2 _ HN3.out.2.2.2.1 (by omega) (by omega)).mono ?_
              rintro e w6 ⟨c, rfl, hc6, hg6⟩
              have HN4 := Lib.hid (HN3.out.draw hq hc6 hg6)
              clear hc6 hg6
              cases c
              · skip
                go_wp2_with fail
                go_ret2
                exact ⟨1, a, b, 1, 0, _, _, ⟨by omega, by omega, a0, by omega, b0, by omega, by omega, by omega⟩, rfl, HN4.out.1, HN4.out.2.1, HN4.out.2.2.2.1, HN4.out.2.2.2.2⟩
              · skip
                obtain ⟨t3, t4⟩ := HN4.out.get (i := 1) (j := 0) rfl (by omega) rfl
                have HN5 := Lib.hid (HN4.out.put (z := 1) (x' := (1, 1)) hq (i := 1) (j := 0) rfl (by omega) rfl)
                simp only [show 0 * 2 + 1 = 1 from rfl] at t3 t4 HN5
                go_wp2_with fail
                go_ret2
                exact ⟨1, a, b, 1, 1, _, _, ⟨by omega, by omega, a0, by omega, b0, by omega, by omega, by omega⟩, rfl, HN5.out.1, HN5.out.2.1, HN5.out.2.2.2.1, HN5.out.2.2.2.2⟩
          · obtain rfl : k = 2 := by omega
            have HN1 : Hid (NSt w wr q v n u5 [((0 : Int), (1 : Int)), ((1 : Int), (0 : Int))] (.slice (some ⟨g, 0, none⟩) 2 cap) (dnB 2 a b)) := by
              have hx := HN0.out
              exact hx
            clear HN0 HJ2
            obtain ⟨ga, ca, hva, _, _⟩ := World.ownsRow.form HN1.out.1 (by simp)
            subst hva
            obtain ⟨A9, c9, e9, w1', w2', _⟩ := HN1.out.1.rd okSpot
            obtain rfl : ca = c9 := by simp only [Value.slice.injEq] at e9; exact e9.2.2
            unfold maxLen at w2'
            clear e9
            simp only [List.length_cons, List.length_nil] at w1' HN1
            go_wp2_with fail
            refine (once_any q n v 2 wr HN1.out.2.2.2.1 (by omega) (by omega)).mono ?_
            rintro e w4 ⟨c, rfl, hc4, hg4⟩
            have HN2 := Lib.hid (HN1.out.draw hq hc4 hg4)
            clear hc4 hg4 HN1
            cases c
            · skip
              go_wp2_with fail
              refine (once_any q n v 2 _ HN2.out.2.2.2.1 (by omega) (by omega)).mono ?_
              rintro e w6 ⟨c, rfl, hc6, hg6⟩
              have HN4 := Lib.hid (HN2.out.draw hq hc6 hg6)
              clear hc6 hg6
              cases c
              · skip
                go_wp2_with fail
                go_ret2
                exact ⟨2, a, b, 0, 0, _, _, ⟨by omega, by omega, a0, by omega, b0, by omega, by omega, by omega⟩, rfl, HN4.out.1, HN4.out.2.1, HN4.out.2.2.2.1, HN4.out.2.2.2.2⟩
              · skip
                obtain ⟨t3, t4⟩ := HN4.out.get (i := 1) (j := 0) rfl (by omega) rfl
                have HN5 := Lib.hid (HN4.out.put (z := 2) (x' := (0, 2)) hq (i := 1) (j := 0) rfl (by omega) rfl)
                simp only [show 0 * 2 + 1 = 1 from rfl] at t3 t4 HN5
                go_wp2_with fail
                go_ret2
                exact ⟨2, a, b, 0, 1, _, _, ⟨by omega, by omega, a0, by omega, b0, by omega, by omega, by omega⟩, rfl, HN5.out.1, HN5.out.2.1, HN5.out.2.2.2.1, HN5.out.2.2.2.2⟩
            · skip
              obtain ⟨t1, t2⟩ := HN2.out.get (i := 0) (j := 1) rfl (by omega) rfl
              have HN3 := Lib.hid (HN2.out.put (z := 2) (x' := (2, 0)) hq (i := 0) (j := 1) rfl (by omega) rfl)
              simp only [show 1 * 2 + 0 = 2 from rfl] at t1 t2 HN3
              go_wp2_with fail
              refine (once_any q n v 2 _ HN3.out.2.2.2.1 (by omega) (by omega)).mono ?_
              rintro e w6 ⟨c, rfl, hc6, hg6⟩
              have HN4 := Lib.hid (HN3.out.draw hq hc6 hg6)
              clear hc6 hg6
              cases c
              · skip
                go_wp2_with fail
                go_ret2
                exact ⟨2, a, b, 1, 0, _, _, ⟨by omega, by omega, a0, by omega, b0, by omega, by omega, by omega⟩, rfl, HN4.out.1, HN4.out.2.1, HN4.out.2.2.2.1, HN4.out.2.2.2.2⟩
              · skip
                obtain ⟨t3, t4⟩ := HN4.out.get (i := 1) (j := 0) rfl (by omega) rfl
                have HN5 := Lib.hid (HN4.out.put (z := 2) (x' := (0, 2)) hq (i := 1) (j := 0) rfl (by omega) rfl)
                simp only [show 0 * 2 + 1 = 1 from rfl] at t3 t4 HN5
                go_wp2_with fail
                go_ret2
                exact ⟨2, a, b, 1, 1, _, _, ⟨by omega, by omega, a0, by omega, b0, by omega, by omega, by omega⟩, rfl, HN5.out.1, HN5.out.2.1, HN5.out.2.2.2.1, HN5.out.2.2.2.2⟩
          · obtain rfl : k = 3 := by omega
            have HN1 : Hid (NSt w wr q v n u5 [((0 : Int), (2 : Int)), ((1 : Int), (1 : Int)), ((2 : Int), (0 : Int))] (.slice (some ⟨g, 0, none⟩) 3 cap) (dnB 3 a b)) := by
              have hx := HN0.out
              exact hx
            clear HN0 HJ2
            go_wp2_with fail
            go_ret2
            exact ⟨3, a, b, 0, 0, _, _, ⟨by omega, by omega, a0, by omega, b0, by omega, by omega, by omega⟩, rfl, HN1.out.1, HN1.out.2.1, HN1.out.2.2.2.1, HN1.out.2.2.2.2⟩

/-- Drawn starts and ends. -/
def NestedDraw (w : World) (e : Ending) (w' : World) : Prop :=
  ∃ (m a b e1 e2 : Int) (u1 u2 : Value), NestOk m a b e1 e2 ∧ e = .returned (.tuple #[u1, u2]) ∧ OwnF elSpot w' w.heap.size u1 (dnA m e1 e2) ∧ OwnF elSpot w' w.heap.size u2 (dnB m a b) ∧ Below w.heap.size w w'
theorem DrawNested_any (v : Value) (n B : Nat) (w : World) (hv : RdU w B v n) (hB : B ≤ w.heap.size) :
    Calls Try.prog 16 #[v] w (NestedDraw w) := by
  go_enter Try.func16, Try.ntmps16
  go_wp2_with fail
  refine (new_any v n B w hv hB).mono ?_
  rintro e w1 ⟨rfl, hc1, hb1⟩
  go_wp2_with fail
  refine (l20Nested_any _ n v w1 hc1).mono ?_
  rintro e w2 ⟨m, a, b, e1, e2, u1, u2, hr, rfl, ho1, ho2, hc2, hg2⟩
  go_wp2_with fail
  go_ret2
  exact ⟨m, a, b, e1, e2, u1, u2, hr, rfl, ho1.mono hb1.size, ho2.mono hb1.size, below_young hb1 hg2 (Nat.le_refl _)⟩
end Go.Proofs.Ytpejphholomenaa
