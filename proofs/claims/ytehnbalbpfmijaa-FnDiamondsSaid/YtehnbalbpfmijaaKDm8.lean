/- What the claim's walk rests on: parts AppendF, SortS, Grow, Prof, ProfI. -/
import Derived.Test.YtehnbalbpfmijaaKDm1
import Derived.Test.YtehnbalbpfmijaaKDm5
import Derived.Test.YtehnbalbpfmijaaKDm6
import Derived.Test.YtehnbalbpfmijaaKDm4
import Derived.Test.YtehnbalbpfmijaaKDm7
import Derived.Deep.RegionHeld3
import Derived.StillTailTactics
import Derived.Laws.EntriesVeiled
namespace Go.Proofs.Ytehnbalbpfmijaa
open Go.RowKit

section
variable {α : Type} {E : El α} {P : Program}
theorem flat_back (h : ∀ x, (E.f x).length = E.s) (hs : 0 < E.s) (xs : List α) (k : Nat) (u : Value) (hu : (xs.flatMap E.f)[k]? = some u) : ∃ x, xs[k / E.s]? = some x ∧ (E.f x)[k % E.s]? = some u := by
  have hk : k < xs.length * E.s := by rw [← flat_length h]; exact (List.getElem?_eq_some_iff.1 hu).1
  have h1 : k / E.s < xs.length := (Nat.div_lt_iff_lt_mul hs).2 hk
  refine ⟨xs[k / E.s], List.getElem?_eq_getElem h1, ?_⟩
  have h2 := flat_get h xs (k / E.s) (k % E.s) _ (List.getElem?_eq_getElem h1) (Nat.mod_lt _ hs)
  rw [Nat.mul_comm, Nat.div_add_mod] at h2
  rw [← h2]; exact hu
theorem run_append_srcF (hE : E.Ok P) (w : World) (lo : Nat) (ty : TypeId) {v u : Value} {xs ys : List α} {B : Nat} (hown : OwnF E w lo v xs) (hu : RdF E w B u ys) (hl : xs.length + ys.length ≤ 1073741824) (hbase : lo ≤ w.heap.size) :
    ∃ v' w', (Builtin.append_ #[E.t, E.t] ty #[v, u]).run P w = .ok v' w' ∧ OwnF E w' lo v' (xs ++ ys) ∧ w.grownBy w' v.ownBlock ∧ (v'.ownBlock = v.ownBlock ∨ v'.ownBlock = some w.heap.size) := by
  obtain ⟨i, hi, hzz⟩ := Option.map_eq_some_iff.1 hE.info
  simp only [Prod.mk.injEq] at hzz
  obtain ⟨hz, hsz, hby⟩ := hzz
  obtain ⟨A, c, rfl, _, _, hr⟩ := hu
  have hgo : ∀ ad, (∀ j u, (ys.flatMap E.f)[j]? = some u → w.cell? (ad.add j) = some u) → ∃ v' w', (Builtin.append_ #[E.t, E.t] ty #[v, .slice (some ad) ys.length c]).run P w = .ok v' w' ∧ OwnF E w' lo v' (xs ++ ys) ∧ w.grownBy w' v.ownBlock ∧ (v'.ownBlock = v.ownBlock ∨ v'.ownBlock = some w.heap.size) := fun ad hcells => by
    have h5 := hE.few
    have h6 : (xs.length + ys.length) * E.b ≤ 1073741824 * 1024 := Nat.mul_le_mul hl h5
    obtain ⟨v', w', hrun, h2, h3, _, h5⟩ := run_append_own_at (P := P) w lo E.t ty E.e i E.z E.s E.b hE.und hi hz hsz hby hE.zs hE.pos v xs.length (xs.flatMap E.f) hown ad ys.length c (ys.flatMap E.f) (flat_length hE.len ys) hcells (fun u hu => by
      obtain ⟨y, _, hy⟩ := List.mem_flatMap.1 hu
      exact hE.one y u hy) (by unfold maxLen; omega) (by omega) hbase
    refine ⟨v', w', hrun, ?_, h3, h5⟩
    unfold OwnF; rw [List.length_append, List.flatMap_append]; exact h2
  cases ys with
  | nil =>
    cases A with
    | none => exact ⟨v, w, run_append_nilsrc w lo E.t ty E.e i E.s hE.und hi v xs.length _ hown c, by simpa using hown, World.grownBy.refl w _, .inl rfl⟩
    | some ad => exact hgo ad (fun j u hu => by simp at hu)
  | cons y ys =>
    obtain ⟨ad, rfl, _, _⟩ := hr 0 y rfl
    refine hgo ad fun j u hu => ?_
    obtain ⟨x, h1, h2⟩ := flat_back hE.len hE.pos (y :: ys) j u hu
    obtain ⟨ad', e, _, h3⟩ := hr _ x h1
    obtain rfl := Option.some.inj e
    have := h3 _ u h2
    rwa [Nat.mul_comm, Nat.div_add_mod] at this
def GrewS (wr w' : World) (v v' : Value) : Prop := wr.grownBy w' v.ownBlock ∧ (v'.ownBlock = v.ownBlock ∨ v'.ownBlock = some wr.heap.size)
theorem acc_src {w wr w' : World} {lo : Nat} {v v' : Value} {xs zs : List α} (H : Acc E w lo wr v xs) (h2 : OwnF E w' lo v' zs) (h3 : wr.grownBy w' v.ownBlock) : Acc E w lo w' v' zs := by
  obtain ⟨h1, h4, h5, h6⟩ := H
  exact ⟨h2, h4.grown h3 h4.size fun k hk => by have := (h1.lt k hk).1; omega, h5, by have := h3.size; omega⟩
theorem wpList_pushSrcF (hE : E.Ok P) {ops : Array Oper} {rest : List Oper} {o : Oper} {a : Act} {Q : Exit → Act → World → Prop} (hgd : o.guard = none) (s x : Operand)
    (ho : o.op = .call { callee := .builtin .append, args := #[s, x], argTypes := #[E.t, E.t] }) {w wr : World} {lo : Nat} {v : Value} {xs : List α} (H : Acc E w lo wr v xs) (hs : a.eval s = v)
    (ys : List α) (B : Nat) (u : Value) (hr : RdF E wr B u ys) (hx : a.eval x = u) (hl : xs.length + ys.length ≤ 1073741824)
    (h : ∀ v' w', Hid (Acc E w lo w' v' (xs ++ ys)) → Hid (GrewS wr w' v v') → wpList P ops Q rest (a.put o.dst v') w') :
    wpList P ops Q (o :: rest) a wr := by
  refine wpList_plain hgd fun K hK => ?_
  obtain ⟨v', w', hrun, h2, h3, h4⟩ := run_append_srcF hE wr lo o.type H.1 hr hl H.2.2.2
  unfold Oper.wp execOp
  simp only [ho, resolve, invoke, builtin, Sem.run_bind, Sem.run_pure, Result.andThen_ok, List.map_toArray, List.map_cons, List.map_nil, hs, hx, hrun]
  exact hK _ _ (h v' w' (acc_src H h2 h3) ⟨h3, h4⟩)
theorem step_pushSrcF (hE : E.Ok P) {ops : Array Oper} {o : Oper} {a : Act} {K : Act → World → Prop} {Q : Exit → Act → World → Prop} {X : Prop} (hgd : o.guard = none) (s x : Operand)
    (ho : o.op = .call { callee := .builtin .append, args := #[s, x], argTypes := #[E.t, E.t] }) {w wr : World} {lo : Nat} {v : Value} {xs : List α} (H : Acc E w lo wr v xs) (hs : a.eval s = v)
    (ys : List α) (B : Nat) (u : Value) (hr : RdF E wr B u ys) (hx : a.eval x = u) (hl : xs.length + ys.length ≤ 1073741824)
    (h : ∀ v' w', Hid (Acc E w lo w' v' (xs ++ ys)) → Hid (GrewS wr w' v v') → K (a.put o.dst v') w') :
    if Region.wanted o (yielded ops a.tmps) = true then Oper.wp P o a wr K Q else X := by
  have hw : Region.wanted o (yielded ops a.tmps) = true := by unfold Region.wanted; rw [hgd]
  rw [if_pos hw]
  obtain ⟨v', w', hrun, h2, h3, h4⟩ := run_append_srcF hE wr lo o.type H.1 hr hl H.2.2.2
  unfold Oper.wp execOp
  simp only [ho, resolve, invoke, builtin, Sem.run_bind, Sem.run_pure, Result.andThen_ok, List.map_toArray, List.map_cons, List.map_nil, hs, hx, hrun]
  exact h v' w' (acc_src H h2 h3) ⟨h3, h4⟩
end
end Go.Proofs.Ytehnbalbpfmijaa

namespace Go.Proofs.Ytehnbalbpfmijaa
open Go.RowKit
set_option linter.unusedVariables false

theorem addOff (g a n : Nat) : (⟨g, a, none⟩ : Addr).add n = ⟨g, a + n, none⟩ := by unfold Addr.add; split <;> simp_all
section
variable {α : Type} {E : El α}
theorem RdF.take {w : World} {B c : Nat} {A : Option Addr} {xs : List α} (h : RdF E w B (.slice A xs.length c) xs) {j : Nat} (hj : j ≤ xs.length) : RdF E w B (.slice A j c) (xs.take j) := by
  obtain ⟨A', c', hv, h1, h2, h3⟩ := h
  obtain ⟨rfl, rfl⟩ : A = A' ∧ c = c' := by simp at hv; exact hv
  have hl : (xs.take j).length = j := by simp; omega
  refine ⟨A, c, by rw [hl], by omega, h2, fun i x hx => h3 i x ?_⟩
  rw [List.getElem?_take] at hx
  split at hx
  · exact hx
  · simp at hx
theorem RdF.drop {w : World} {B c g : Nat} {xs : List α} (h : RdF E w B (.slice (some ⟨g, 0, none⟩) xs.length c) xs) {j : Nat} (hj : j ≤ xs.length) : RdF E w B (.slice (if c = j then some ⟨g, 0, none⟩ else some ⟨g, j * E.s, none⟩) (xs.length - j) (c - j)) (xs.drop j) := by
  obtain ⟨A', c', hv, h1, h2, h3⟩ := h
  obtain ⟨rfl, rfl⟩ : some (⟨g, 0, none⟩ : Addr) = A' ∧ c = c' := by simp at hv; exact ⟨hv.1, hv.2⟩
  have hl : (xs.drop j).length = xs.length - j := by simp
  refine ⟨_, c - j, by rw [hl], by omega, by omega, fun i x hx => ?_⟩
  have hi := (List.getElem?_eq_some_iff.1 hx).1
  rw [hl] at hi
  rw [List.getElem?_drop] at hx
  obtain ⟨ad, e, hb, hc⟩ := h3 (j + i) x hx
  obtain rfl := Option.some.inj e
  refine ⟨⟨g, j * E.s, none⟩, by rw [if_neg (by omega)], hb, fun q u hu => ?_⟩
  have := hc q u hu
  rw [addOff] at this
  rw [addOff]
  rw [show 0 + ((j + i) * E.s + q) = j * E.s + (i * E.s + q) by rw [Nat.add_mul]; omega] at this
  exact this
theorem RdF.void {w : World} {B c n : Nat} {A : Option Addr} (hn : n = 0) (hc : c ≤ maxLen) : RdF E w B (.slice A n c) ([] : List α) := ⟨A, c, by rw [hn]; rfl, Nat.zero_le _, hc, fun j x hx => by simp at hx⟩
end
/-- Two elements of rows, in a world that grows. -/
abbrev TwoE (V w' : World) (p : Addr) (x y : Int) (d : Bool) (q : Addr) (x' y' : Int) (d' : Bool) : Prop := w'.cell? p = some (.int .i64 x) ∧ w'.cell? ⟨p.block, p.off + 1, none⟩ = some (.int .i64 y) ∧ w'.cell? ⟨p.block, p.off + 2, none⟩ = some (.bool d) ∧
  w'.cell? q = some (.int .i64 x') ∧ w'.cell? ⟨q.block, q.off + 1, none⟩ = some (.int .i64 y') ∧ w'.cell? ⟨q.block, q.off + 2, none⟩ = some (.bool d') ∧ V.heap.size ≤ w'.heap.size ∧ Below V.heap.size V w'
theorem TwoE.keep {V W0 w1 : World} {p : Addr} {x y : Int} {d : Bool} {q : Addr} {x' y' : Int} {d' : Bool} (hb : Below W0.heap.size W0 w1) (ha : p.block < V.heap.size) (hp : q.block < V.heap.size) (h : TwoE V W0 p x y d q x' y' d') : TwoE V w1 p x y d q x' y' d' := by
  obtain ⟨h1, h2, h3, h4, h5, h6, h7, h8⟩ := h
  exact ⟨(hb.cell (by omega)).trans h1, (hb.cell (by simp; omega)).trans h2, (hb.cell (by simp; omega)).trans h3, (hb.cell (by omega)).trans h4, (hb.cell (by simp; omega)).trans h5, (hb.cell (by simp; omega)).trans h6, Nat.le_trans h7 hb.size, h8.trans (hb.mono h7)⟩
theorem TwoE.drew {V W0 : World} {p : Addr} {x y : Int} {d : Bool} {q : Addr} {x' y' : Int} {d' : Bool} (h : TwoE V W0 p x y d q x' y' d') : TwoE V W0.drew p x y d q x' y' d' := ⟨h.1, h.2.1, h.2.2.1, h.2.2.2.1, h.2.2.2.2.1, h.2.2.2.2.2.1, h.2.2.2.2.2.2.1, h.2.2.2.2.2.2.2.drew⟩

set_option maxRecDepth 100000 in
set_option maxHeartbeats 4000000 in
theorem specSortDominoes_any (v : Value) (ls : List Lk) (B : Nat) (w : World) (h : RdF elDomino w B v ls) (hB : B ≤ w.heap.size) :
    Calls Try.prog 28 #[v] w fun e w' => ∃ u, e = .returned u ∧ OwnF elDomino w' w.heap.size u (sortI ls ls.length) ∧ Below w.heap.size w w' := by
  rw [(sort_same ls ls.length).1]
  obtain ⟨A, c, rfl, g1, g2, G3⟩ := RdT.of (E := elDomino) rfl (fun _ => rfl) h
  unfold maxLen at g2
  clear h
  have HA0 : Hid (Acc elDomino w w.heap.size (w.alloc (.cells #[] 46)) (.slice (some ⟨w.heap.size, 0, none⟩) 0 0) []) := Acc.start w
  have HSS := Lib.hid (sort_same ls)
  have HSI : Hid (∀ k, sortS ls (k + 1) = if domL (dAt ls k) then insS (dAt ls k) (sortS ls k) else sortS ls k) := fun k => rfl
  have HS0 : Hid (sortS ls 0 = []) := rfl
  obtain ⟨st, HST⟩ : ∃ st, Hid (st = sortS ls) := ⟨_, rfl⟩
  rw [← HST.out] at HSI HS0 ⊢
  have HSR : Hid (∀ k, (st k).length ≤ 128) := fun k => by rw [HST.out, ← (HSS.out k).1]; exact (HSS.out k).2.short
  clear HST HSS
  go_enter Try.func28, Try.ntmps28
  go_wp2_with fail
  go_loopw [3, 4] (fun o i wr => ∃ (k g c2 : Nat), k ≤ ls.length ∧ i = .int .i64 k ∧ o = .slice (some ⟨g, 0, none⟩) (st k).length c2 ∧ Hid (Acc elDomino w w.heap.size wr (.slice (some ⟨g, 0, none⟩) (st k).length c2) (st k))) (fun _ i _ => ls.length - (intOf i).toNat)
  case atStart => exact ⟨0, _, _, Nat.zero_le _, rfl, by rw [HS0.out]; rfl, by rw [HS0.out]; exact HA0⟩
  case round =>
    obtain ⟨k, g, ca, hk, rfl, rfl, HA⟩ := hrel
    by_cases hlt : k < ls.length
    · have ht : decide ((k : Int) < (ls.length : Int)) = true := by simp only [decide_eq_true_eq]; omega
      obtain ⟨ad, rfl, hbl, hx, hy, hz⟩ := G3.out k hlt
      have hbl2 : (ad.add (k * 3)).block < w.heap.size := by rw [addBlock]; omega
      have hbw := HA.out.2.1
      have hx' := (hbw.cell (p := ad.add (k * 3)) hbl2).trans hx
      have hy' := (hbw.cell (p := ⟨(ad.add (k * 3)).block, (ad.add (k * 3)).off + 1, none⟩) hbl2).trans hy
      have hz' := (hbw.cell (p := ⟨(ad.add (k * 3)).block, (ad.add (k * 3)).off + 2, none⟩) hbl2).trans hz
      have HNX := Lib.hid (HSI.out k)
      have hshort := HSR.out k
      have HDA : Hid (dAt ls k = (lx ls k, ly ls k, ld ls k)) := rfl
      rw [HDA.out] at HNX
      have hk0 : (0 : Int) ≤ (k : Int) := by omega
      have hk1 : (k : Int) < (ls.length : Int) := by omega
      generalize lx ls k = x at *
      generalize ly ls k = y at *
      generalize ld ls k = d at *
      obtain ⟨ys, HYQ⟩ : ∃ ys, Hid (st k = ys) := ⟨_, rfl⟩
      rw [HYQ.out] at HA HNX hshort ⊢
      have hcap : ys.length ≤ ca ∧ ca ≤ maxLen := by
        obtain ⟨A9, c9, hv9, q1, q2, _⟩ := HA.out.1.rd okDomino
        simp at hv9
        omega
      obtain ⟨q1, q2⟩ := hcap
      unfold maxLen at q2
      have HXW : Hid (Three wr (ad.add (k * 3)) x y d) := ⟨hx', hy', hz'⟩
      have HADB := Lib.hid hbl2
      clear hx hy hz hbw HDA HYQ hbl2
      go_wp2_with fail
      refine (specDominoOk_any x y d _).mono ?_
      rintro e w1 ⟨rfl, hb1⟩
      have HA3 := Lib.hid (HA.out.below hb1)
      have hsz := HA.out.2.1.size
      have had : (ad.add (k * 3)).block < wr.heap.size := Nat.lt_of_lt_of_le HADB.out hsz
      have HX1 : Hid (Three w1 (ad.add (k * 3)) x y d) := ⟨(hb1.cell (p := ad.add (k * 3)) had).trans hx', (hb1.cell (p := ⟨(ad.add (k * 3)).block, (ad.add (k * 3)).off + 1, none⟩) had).trans hy', (hb1.cell (p := ⟨(ad.add (k * 3)).block, (ad.add (k * 3)).off + 2, none⟩) had).trans hz'⟩
      have HAD1 : Hid ((ad.add (k * 3)).block < w1.heap.size) := Nat.lt_of_lt_of_le had hb1.size
      clear hb1 hsz had hx' hy' hz' HXW
      obtain ⟨f1, f2, f3⟩ := HX1.out
      cases hd : domB x y d
      · have HE : Hid (st (k + 1) = ys) := by unfold Hid; rw [HNX.out, if_neg (by simp [domL, hd])]
        clear HNX hd
        go_wp2_with fail
        go_roundw
        case rel => exact ⟨k + 1, g, ca, by omega, by go_num, by rw [HE.out], by rw [HE.out]; exact HA3⟩
        case measure => simp [intOf]; omega
      · have HE : Hid (st (k + 1) = if decide (upK ys (x, y, d) ys.length 0 < ys.length) && (dAt ys (upK ys (x, y, d) ys.length 0) == (x, y, d)) then ys else ys.take (upK ys (x, y, d) ys.length 0) ++ [(x, y, d)] ++ ys.drop (upK ys (x, y, d) ys.length 0)) := by unfold Hid; rw [HNX.out, if_pos (by simp [domL, hd])]; rfl
        obtain ⟨q, HQ⟩ : ∃ q, Hid (upK ys (x, y, d) ys.length 0 = q) := ⟨_, rfl⟩
        rw [HQ.out] at HE
        clear HNX hd
        go_wp2_with fail
        go_loopw [5] (fun s wr2 => ∃ j : Nat, j ≤ ys.length ∧ s = .int .i64 j ∧ Hid (upK ys (x, y, d) (ys.length - j) j = q) ∧ Hid (Below w1.heap.size w1 wr2)) (fun s _ => ys.length - (intOf s).toNat)
        case atStart => exact ⟨0, Nat.zero_le _, rfl, HQ, Below.refl _ _⟩
        case round =>
          obtain ⟨j, hj, rfl, HJ, HB⟩ := hrel
          have HA4 := Lib.hid (HA3.out.below HB.out)
          have HX2 : Hid (Three wr (ad.add (k * 3)) x y d) := ⟨(HB.out.cell (p := ad.add (k * 3)) HAD1.out).trans HX1.out.1, (HB.out.cell (p := ⟨(ad.add (k * 3)).block, (ad.add (k * 3)).off + 1, none⟩) HAD1.out).trans HX1.out.2.1, (HB.out.cell (p := ⟨(ad.add (k * 3)).block, (ad.add (k * 3)).off + 2, none⟩) HAD1.out).trans HX1.out.2.2⟩
          have HAD2 : Hid ((ad.add (k * 3)).block < wr.heap.size) := Nat.lt_of_lt_of_le HAD1.out HB.out.size
          clear f1 f2 f3
          obtain ⟨e1, e2, e3⟩ := HX2.out
          have hj0 : (0 : Int) ≤ (j : Int) := by omega
          by_cases hjl : j < ys.length
          · have htj : decide (j < ys.length) = true := by simp only [decide_eq_true_eq]; omega
            have hj1 : (j : Int) < (ys.length : Int) := by omega
            obtain ⟨c0, c1, c2, _⟩ := triStore okDomino rfl (fun _ => rfl) HA4.out.1 hjl
            have HDM : Hid (dAt ys j = (lx ys j, ly ys j, ld ys j)) := rfl
            have HJ2 : Hid ((if domLt (lx ys j, ly ys j, ld ys j) (x, y, d) then upK ys (x, y, d) (ys.length - (j + 1)) (j + 1) else j) = q) := by
              unfold Hid; rw [← HJ.out, show ys.length - j = (ys.length - (j + 1)) + 1 by omega, upK, htj, HDM.out]; rfl
            have hgl : g < wr.heap.size := (HA4.out.1.lt g rfl).2
            have HGL := Lib.hid hgl
            generalize lx ys j = x2 at *
            generalize ly ys j = y2 at *
            generalize ld ys j = d2 at *
            have HS0 : Hid (TwoE wr wr (ad.add (k * 3)) x y d ⟨g, j * 3, none⟩ x2 y2 d2) := ⟨e1, e2, e3, c0, c1, c2, Nat.le_refl _, Below.refl _ _⟩
            clear hgl
            go_wp2_with fail
            go_region_held3 (fun w' => TwoE wr w' (ad.add (k * 3)) x y d ⟨g, j * 3, none⟩ x2 y2 d2)
              (first
                | exact HS0.out.drew
                | exact TwoE.keep hb1 HAD2.out HGL.out (by assumption))
              (first
                | (go_at_call 83; refine (specBefore_any x2 y2 d2 x y d _).mono ?_; rintro e w3 ⟨rfl, hb1⟩))
            have HP3 := Lib.hid (show TwoE wr _ (ad.add (k * 3)) x y d ⟨g, j * 3, none⟩ x2 y2 d2 from by assumption)
            clear e1 e2 e3 c0 c1 c2
            obtain ⟨e1, e2, e3, c0, c1, c2, _, hb3⟩ := HP3.out
            have HB3 := Lib.hid hb3
            clear hb3
            cases hlt2 : domLt (x2, y2, d2) (x, y, d)
            · have HQJ : Hid (q = j) := by unfold Hid; rw [← HJ2.out, if_neg (by simp [hlt2])]
              clear HJ2 hlt2
              by_cases heq : (x2, y2, d2) = (x, y, d)
              · have HE1 : Hid (st (k + 1) = ys) := by
                  unfold Hid; rw [HE.out, HQJ.out, if_pos]
                  rw [HDM.out, heq, htj]; simp
                simp only [Prod.mk.injEq] at heq
                obtain ⟨rfl, rfl, rfl⟩ := heq
                go_wp2_with fail
                go_quiet (fail)
                have HA9 := Lib.hid (HA4.out.below (HB3.out.trans (Drawn.below ⟨nq, rfl⟩ _)))
                go_wp2_with fail
                go_roundw
                case rel => exact ⟨k + 1, g, ca, by omega, by go_num, by rw [HE1.out], by rw [HE1.out]; exact HA9⟩
                case measure => simp [intOf]; omega
              · have HE0 : Hid (st (k + 1) = ys.take j ++ [(x, y, d)] ++ ys.drop j) := by
                  unfold Hid; rw [HE.out, HQJ.out, if_neg]
                  rw [HDM.out]
                  simpa [hjl] using heq
                have hsq : ∀ W : World, Sem.run Try.prog (binOp .eql 46 (.agg #[.int .i64 x2, .int .i64 y2, .bool d2]) (.agg #[.int .i64 x, .int .i64 y, .bool d])) W = .ok (.bool false) W := fun W => by
                  by_cases h1 : x2 = x
                  · by_cases h2 : y2 = y
                    · have h3 : ¬ d2 = d := fun h => heq (by rw [h1, h2, h])
                      go_simp
                    · go_simp
                  · go_simp
                clear heq HE
                go_wp2_with fail
                go_quiet (fail)
                clear hsq
                obtain ⟨W6, HW6⟩ : ∃ W6, Hid (W6 = World.drewN w3 nq) := ⟨_, rfl⟩
                rw [← HW6.out]
                have HBW : Hid (Below wr.heap.size wr W6) := by unfold Hid; rw [HW6.out]; exact HB3.out.trans (Drawn.below ⟨_, rfl⟩ _)
                clear c0 c1 c2
                have hcj : ¬ ca = j := by omega
                have HA6 := Lib.hid (HA4.out.below HBW.out)
                have hs6 := HBW.out.size
                have HX6 : Hid (Three W6 (ad.add (k * 3)) x y d) := ⟨(HBW.out.cell (p := ad.add (k * 3)) HAD2.out).trans HX2.out.1, (HBW.out.cell (p := ⟨(ad.add (k * 3)).block, (ad.add (k * 3)).off + 1, none⟩) HAD2.out).trans HX2.out.2.1, (HBW.out.cell (p := ⟨(ad.add (k * 3)).block, (ad.add (k * 3)).off + 2, none⟩) HAD2.out).trans HX2.out.2.2⟩
                have HAD6 : Hid ((ad.add (k * 3)).block < W6.heap.size) := Nat.lt_of_lt_of_le HAD2.out hs6
                have HR6 := Lib.hid (HA6.out.1.rd okDomino)
                have HN0 : Hid (Acc elDomino W6 W6.heap.size (W6.alloc (.cells #[] 46)) (.slice (some ⟨W6.heap.size, 0, none⟩) 0 0) []) := Acc.start W6
                have HR7 : Hid (RdF elDomino (W6.alloc (.cells #[] 46)) W6.heap.size (.slice (some ⟨g, 0, none⟩) j ca) (ys.take j)) := (HR6.out.below ((Below.refl _ _).alloc (Nat.le_refl _) _)).take hj
                have hjle : (j : Int) ≤ (ys.length : Int) := by omega
                have hjc : (j : Int) ≤ (ca : Int) := by omega
                clear e1 e2 e3 hs6
                go_wp2_with (first
                  | (at_builtin; refine wpList_pushSrcF okDomino rfl _ _ rfl HN0.out rfl (ys.take j) _ _ HR7.out rfl (by simp; omega) ?_; intro v8 w8 HN1 HG8; rw [List.nil_append] at HN1; obtain ⟨A8, c8, hv8, _⟩ := HN1.out.1.rd okDomino; rw [show (ys.take j).length = j by simp; omega] at hv8; subst hv8; have hb8 := HN1.out.2.1; have i1 := (hb8.cell (p := ad.add (k * 3)) HAD6.out).trans HX6.out.1; have i2 := (hb8.cell (p := ⟨(ad.add (k * 3)).block, (ad.add (k * 3)).off + 1, none⟩) HAD6.out).trans HX6.out.2.1; have i3 := (hb8.cell (p := ⟨(ad.add (k * 3)).block, (ad.add (k * 3)).off + 2, none⟩) HAD6.out).trans HX6.out.2.2; clear hb8)
                  | (at_builtin; refine wpList_push okDomino rfl _ _ rfl HN1.out rfl (x, y, d) _ rfl _ rfl rfl (by simp; omega) ?_; intro v9 w9 HN2 HG9; clear i1 i2 i3; obtain ⟨A9, c9, hv9, _⟩ := HN2.out.1.rd okDomino; rw [show (ys.take j ++ [((x, y, d) : Lk)]).length = j + 1 by simp; omega] at hv9; subst hv9; have h9 := (HR6.out.below HN2.out.2.1).drop hj; rw [if_neg hcj] at h9; have HR9 := Lib.hid h9; clear h9)
                  | (at_builtin; refine wpList_pushSrcF okDomino rfl _ _ rfl HN2.out rfl (ys.drop j) _ _ HR9.out rfl (by simp; omega) ?_; intro v10 w10 HN3 HG10; rw [← HE0.out] at HN3; have hp3 : 0 < (st (k + 1)).length := (by rw [HE0.out]; simp only [List.length_append, List.length_singleton]; omega); obtain ⟨g10, c10, hv10, _, _⟩ := World.ownsRow.form HN3.out.1 hp3; subst hv10))
                all_goals
                  have hmono := HA6.out.2.1.size
                  go_roundw
                  case rel => exact ⟨k + 1, g10, c10, by omega, by go_num, rfl, ⟨HN3.out.1.mono hmono, HA6.out.2.1.trans (HN3.out.2.1.mono hmono), Nat.le_refl _, Nat.le_trans hmono HN3.out.2.1.size⟩⟩
                  case measure => simp [intOf]; omega
            · have HJ3 : Hid (upK ys (x, y, d) (ys.length - (j + 1)) (j + 1) = q) := by unfold Hid; rw [← HJ2.out, if_pos hlt2]
              have HB4 := Lib.hid (HB.out.trans (HB3.out.mono HB.out.size))
              clear HJ2
              go_wp2_with fail
              go_roundw
              case rel => exact ⟨j + 1, by omega, by go_num, HJ3, HB4⟩
              case measure => simp [intOf]; omega
          · have htj : decide (j < ys.length) = false := by simp only [decide_eq_false_iff_not]; omega
            have HQJ : Hid (q = j) := by unfold Hid; rw [← HJ.out, show ys.length - j = 0 by omega]; rfl
            have HE0 : Hid (st (k + 1) = ys.take j ++ [(x, y, d)] ++ ys.drop j) := by
              unfold Hid; rw [HE.out, HQJ.out, htj]; simp
            go_wp2_with fail
            go_quiet (fail)
            obtain ⟨W5, HW5⟩ : ∃ W5, Hid (W5 = wr.drewN nq) := ⟨_, rfl⟩
            rw [← HW5.out]
            go_wp2_with fail
            go_quiet (fail)
            obtain ⟨W6, HW6⟩ : ∃ W6, Hid (W6 = W5.drewN nq) := ⟨_, rfl⟩
            rw [← HW6.out]
            have HBW : Hid (Below wr.heap.size wr W6) := by unfold Hid; rw [HW6.out, HW5.out]; exact (Drawn.below ⟨_, rfl⟩ _).trans ((Drawn.below ⟨_, rfl⟩ _))
            have HE9 : Hid (st (k + 1) = ys.take j ++ [(x, y, d)]) := by unfold Hid; rw [HE0.out, List.drop_of_length_le (by omega)]; simp
            have HA6 := Lib.hid (HA4.out.below HBW.out)
            have hs6 := HBW.out.size
            have HX6 : Hid (Three W6 (ad.add (k * 3)) x y d) := ⟨(HBW.out.cell (p := ad.add (k * 3)) HAD2.out).trans HX2.out.1, (HBW.out.cell (p := ⟨(ad.add (k * 3)).block, (ad.add (k * 3)).off + 1, none⟩) HAD2.out).trans HX2.out.2.1, (HBW.out.cell (p := ⟨(ad.add (k * 3)).block, (ad.add (k * 3)).off + 2, none⟩) HAD2.out).trans HX2.out.2.2⟩
            have HAD6 : Hid ((ad.add (k * 3)).block < W6.heap.size) := Nat.lt_of_lt_of_le HAD2.out hs6
            have HR6 := Lib.hid (HA6.out.1.rd okDomino)
            have HN0 : Hid (Acc elDomino W6 W6.heap.size (W6.alloc (.cells #[] 46)) (.slice (some ⟨W6.heap.size, 0, none⟩) 0 0) []) := Acc.start W6
            have HR7 : Hid (RdF elDomino (W6.alloc (.cells #[] 46)) W6.heap.size (.slice (some ⟨g, 0, none⟩) j ca) (ys.take j)) := (HR6.out.below ((Below.refl _ _).alloc (Nat.le_refl _) _)).take hj
            have hjle : (j : Int) ≤ (ys.length : Int) := by omega
            have hjc : (j : Int) ≤ (ca : Int) := by omega
            clear e1 e2 e3 hs6
            go_wp2_with (first
              | (at_builtin; refine wpList_pushSrcF okDomino rfl _ _ rfl HN0.out rfl (ys.take j) _ _ HR7.out rfl (by simp; omega) ?_; intro v8 w8 HN1 HG8; rw [List.nil_append] at HN1; obtain ⟨A8, c8, hv8, _⟩ := HN1.out.1.rd okDomino; rw [show (ys.take j).length = j by simp; omega] at hv8; subst hv8; have hb8 := HN1.out.2.1; have i1 := (hb8.cell (p := ad.add (k * 3)) HAD6.out).trans HX6.out.1; have i2 := (hb8.cell (p := ⟨(ad.add (k * 3)).block, (ad.add (k * 3)).off + 1, none⟩) HAD6.out).trans HX6.out.2.1; have i3 := (hb8.cell (p := ⟨(ad.add (k * 3)).block, (ad.add (k * 3)).off + 2, none⟩) HAD6.out).trans HX6.out.2.2; clear hb8)
              | (at_builtin; refine wpList_push okDomino rfl _ _ rfl HN1.out rfl (x, y, d) _ rfl _ rfl rfl (by simp; omega) ?_; intro v9 w9 HN2 HG9; clear i1 i2 i3; obtain ⟨A9, c9, hv9, _⟩ := HN2.out.1.rd okDomino; rw [show (ys.take j ++ [((x, y, d) : Lk)]).length = j + 1 by simp; omega] at hv9; subst hv9)
              | (at_builtin; refine wpList_pushSrcF okDomino rfl _ _ rfl HN2.out rfl [] 0 _ ?hr9 rfl (by simp; omega) ?_; (case hr9 => exact RdF.void (by omega) (by unfold maxLen; omega)); intro v10 w10 HN3 HG10; rw [List.append_nil, ← HE9.out] at HN3; have hp3 : 0 < (st (k + 1)).length := (by rw [HE9.out]; simp only [List.length_append, List.length_singleton]; omega); obtain ⟨g10, c10, hv10, _, _⟩ := World.ownsRow.form HN3.out.1 hp3; subst hv10))
            all_goals
              have hmono := HA6.out.2.1.size
              go_roundw
              case rel => exact ⟨k + 1, g10, c10, by omega, by go_num, rfl, ⟨HN3.out.1.mono hmono, HA6.out.2.1.trans (HN3.out.2.1.mono hmono), Nat.le_refl _, Nat.le_trans hmono HN3.out.2.1.size⟩⟩
              case measure => simp [intOf]; omega
    · obtain rfl : k = ls.length := by omega
      have ht : decide ((ls.length : Int) < (ls.length : Int)) = false := by simp
      go_wp2_with fail
      go_ret
      exact ⟨_, rfl, HA.out.1, HA.out.2.1⟩
end Go.Proofs.Ytehnbalbpfmijaa

namespace Go.Proofs.Ytehnbalbpfmijaa
open Go.RowKit
set_option linter.unusedVariables false

/-- Where a domino of the diamond of order n moves to. -/
def stepB (n x y : Int) : Bool := (x + y + n) % 2 == 1
def grL (n : Int) (l : Lk) : Lk := if l.2.2 then (l.1 + (if stepB n l.1 l.2.1 then -1 else 1), l.2.1, true) else (l.1, l.2.1 + (if stepB n l.1 l.2.1 then -1 else 1), false)
def growTo (n : Int) (ls : List Lk) : Nat → List Lk
  | 0 => []
  | k + 1 => if hasL ls (grL n (dAt ls k)) then growTo n ls k else growTo n ls k ++ [((grL n (dAt ls k)).1 + 1, (grL n (dAt ls k)).2.1 + 1, (dAt ls k).2.2)]
theorem growTo_len (n : Int) (ls : List Lk) : ∀ k, (growTo n ls k).length ≤ k
  | 0 => by simp [growTo]
  | k + 1 => by have := growTo_len n ls k; rw [growTo]; split <;> simp <;> omega
def growB (n : Int) (ls : List Lk) : Bool := inB n 1 3 && sTileB (setZ (diamZ n.toNat)) ls
def growZ (n : Int) (ls : List Lk) : List Lk := if growB n ls then sortI (growTo n ls ls.length) (growTo n ls ls.length).length else []
theorem diam_ok_tab : ((List.range 5).all fun n => regOkB (diamZ n)) = true := by decide +kernel
theorem diam_ok (n : Nat) (h : n ≤ 4) : regOkB (diamZ n) = true := by
  have h9 := diam_ok_tab
  rw [List.all_eq_true] at h9
  exact h9 n (by simp; omega)
theorem tile_dom {R : Nat} {ls : List Lk} (h : sTileB R ls = true) {k : Nat} (hk : k < ls.length) : domB (lx ls k) (ly ls k) (ld ls k) = true := by
  unfold sTileB sPartB at h
  rw [Bool.and_eq_true, upFrom_iff] at h
  have hq := h.1 k (Nat.zero_le _) hk
  unfold qAt at hq
  simp only [Bool.and_eq_true] at hq
  exact hq.1.1
theorem tile_few {R : Nat} {ls : List Lk} (h : sTileB R ls = true) : ls.length ≤ 32 := by
  unfold sTileB at h
  rw [Bool.and_eq_true, decide_eq_true_eq] at h
  have key : ∀ R n, cntB R n ≤ n := by
    intro R n
    induction n with
    | zero => simp [cntB]
    | succ n ih => rw [cntB]; split <;> omega
  have := key R 64
  omega
/-- What moves returns. -/
def mvX (n x y : Int) (d : Bool) : Int := if d then (if stepB n x y then -1 else 1) else 0
def mvY (n x y : Int) (d : Bool) : Int := if d then 0 else (if stepB n x y then -1 else 1)

set_option maxRecDepth 100000 in
set_option maxHeartbeats 2000000 in
theorem moves_any (n x y : Int) (d : Bool) (hn : 1 ≤ n ∧ n ≤ 3) (hx : -1 ≤ x ∧ x ≤ 9) (hy : -1 ≤ y ∧ y ≤ 9) (hs : 0 ≤ x + y + n) (w : World) :
    Calls Try.prog 73 #[.int .i64 n, triV x y d] w fun e w' => e = .returned (.tuple #[.int .i64 (mvX n x y d), .int .i64 (mvY n x y d)]) ∧ Below w.heap.size w w' := by
  obtain ⟨W, hW, k0, hb⟩ := one_alloc w (triO x y d 46)
  obtain ⟨c0, c1, c2⟩ := tri_cells k0
  have HW := Lib.hid hW
  have HB := Lib.hid hb
  clear hW hb k0
  cases hst : stepB n x y
  all_goals
    have hq : ((x + y + n) % 2 == 1) = stepB n x y := rfl
    rw [hst] at hq
    have HMX : Hid (∀ d, mvX n x y d = if d then (if stepB n x y then -1 else 1) else 0) := fun _ => rfl
    have HMY : Hid (∀ d, mvY n x y d = if d then 0 else (if stepB n x y then -1 else 1)) := fun _ => rfl
    rw [hst] at HMX HMY
    cases d
    all_goals
      rw [HMX.out, HMY.out]
      go_enter Try.func73, Try.ntmps73
      go_upto_region 1 with (fail)
      rw [← HW.out]
      go_wp2_with fail
      exact bodyPost_ret (v := .tuple #[_, _]) (by simp [results, Try.results73, go_sem]) rfl ⟨rfl, HB.out⟩

theorem grow_step (n x y : Int) (d : Bool) (hn : 1 ≤ n ∧ n ≤ 3) (hx : 0 ≤ x ∧ x ≤ 7) (hy : 0 ≤ y ∧ y ≤ 7) :
    grL n (x, y, d) = (x + mvX n x y d, y + mvY n x y d, d) ∧ mvX n (x + mvX n x y d) (y + mvY n x y d) d = - mvX n x y d ∧ mvY n (x + mvX n x y d) (y + mvY n x y d) d = - mvY n x y d ∧ (-1 ≤ x + mvX n x y d ∧ x + mvX n x y d ≤ 8) ∧ (-1 ≤ y + mvY n x y d ∧ y + mvY n x y d ≤ 8) ∧ 0 ≤ x + mvX n x y d + (y + mvY n x y d) + n ∧ (-1 ≤ mvX n x y d ∧ mvX n x y d ≤ 1) ∧ (-1 ≤ mvY n x y d ∧ mvY n x y d ≤ 1) := by
  have key : ∀ a b : Int, stepB n a b = true ↔ (a + b + n) % 2 = 1 := fun a b => by unfold stepB; simp
  have hf : ∀ a b : Int, stepB n a b = false ↔ ¬ (a + b + n) % 2 = 1 := fun a b => by unfold stepB; simp
  cases d
  · cases hs : stepB n x y
    · have h1 := (hf x y).1 hs
      have h2 : stepB n x (y + 1) = true := (key _ _).2 (by omega)
      simp [grL, mvX, mvY, hs, h2]
      omega
    · have h1 := (key x y).1 hs
      have h2 : stepB n x (y + -1) = false := (hf _ _).2 (by omega)
      simp [grL, mvX, mvY, hs, h2]
      omega
  · cases hs : stepB n x y
    · have h1 := (hf x y).1 hs
      have h2 : stepB n (x + 1) y = true := (key _ _).2 (by omega)
      simp [grL, mvX, mvY, hs, h2]
      omega
    · have h1 := (key x y).1 hs
      have h2 : stepB n (x + -1) y = false := (hf _ _).2 (by omega)
      simp [grL, mvX, mvY, hs, h2]
      omega
def RetGrow (w : World) (b : Bool) (xs : List Lk) (e : Ending) (w' : World) : Prop := ∃ u, e = .returned (.tuple #[u, .bool b]) ∧ OwnF elDomino w' w.heap.size u xs ∧ Below w.heap.size w w'

set_option maxRecDepth 100000 in
set_option maxHeartbeats 8000000 in
theorem GrowDiamond_yes (n : Nat) (v : Value) (ls : List Lk) (B : Nat) (w : World) (h : RdF elDomino w B v ls) (hB : B ≤ w.heap.size) (hn : 1 ≤ n ∧ n ≤ 3) (ht : sTileB (setZ (diamZ n)) ls = true) :
    Calls Try.prog 22 #[.int .i64 (n : Int), v] w (RetGrow w true (sortI (growTo n ls ls.length) (growTo n ls ls.length).length)) := by
  have hls := tile_few ht
  have HIN := Lib.hid (fun k (hk : k < ls.length) => tile_dom ht hk)
  have HLEN := Lib.hid (growTo_len (n : Int) ls)
  have HMS : Hid (∀ k, growTo (n : Int) ls (k + 1) = if hasL ls (grL n (dAt ls k)) then growTo (n : Int) ls k else growTo (n : Int) ls k ++ [((grL n (dAt ls k)).1 + 1, (grL n (dAt ls k)).2.1 + 1, (dAt ls k).2.2)]) := fun k => rfl
  have HM0 : Hid (growTo (n : Int) ls 0 = []) := rfl
  obtain ⟨mv, HMV0⟩ : ∃ mv, Hid (mv = growTo (n : Int) ls) := ⟨_, rfl⟩
  rw [← HMV0.out] at HMS HM0 HLEN ⊢
  have HV := Lib.hid h
  obtain ⟨A, c, rfl, g1, g2, G3⟩ := RdT.of (E := elDomino) rfl (fun _ => rfl) h
  unfold maxLen at g2
  have t1 : inB (n : Int) 1 3 = true := inB_true (by omega) (by omega)
  have hok := diam_ok n (by omega)
  have HT : Hid (tileB (setZ (diamZ n)) ls = true) := by unfold Hid; rw [tile_eq (setZ_lt hok)]; exact ht
  have HOK := Lib.hid hok
  clear hok ht h HMV0
  go_enter Try.func22, Try.ntmps22
  go_wp2_with fail
  refine (within_any _ _ _ _).mono ?_
  rintro e w' ⟨rfl, rfl⟩
  rw [t1]
  go_wp2_with fail
  refine (Diamond_yes n (by omega) _).mono ?_
  rintro e w1 ⟨u1, rfl, hr1, hb1⟩
  have HR1 := Lib.hid hr1
  have HB1 := Lib.hid hb1
  clear hb1 hr1
  go_wp2_with fail
  refine (IsTiling_yes _ _ _ ls _ _ HR1.out ((HV.out.below (HB1.out.mono hB)).more (Nat.le_trans hB HB1.out.size)) (Nat.le_refl _) HOK.out).mono ?_
  rintro e w2 ⟨rfl, hb2⟩
  rw [HT.out]
  have HB2 := Lib.hid (HB1.out.trans (hb2.mono HB1.out.size))
  clear hb2
  have HA0 : Hid (Acc elDomino w w.heap.size (w2.alloc (.cells #[] 46)) (.slice (some ⟨w2.heap.size, 0, none⟩) 0 0) []) := by
    have := Acc.startAt (E := elDomino) HB2.out (Nat.le_refl _) HB2.out.size
    exact this
  go_wp2_with fail
  go_loopw [6, 27] (fun o i wr => ∃ (k : Nat) (u : Value), k ≤ ls.length ∧ i = .int .i64 (k : Int) ∧ u = o ∧ Hid (Acc elDomino w w.heap.size wr u (mv k))) (fun _ i _ => ls.length - (intOf i).toNat)
  case atStart => exact ⟨0, _, Nat.zero_le _, rfl, rfl, by rw [HM0.out]; exact HA0⟩
  case round =>
    obtain ⟨k, u, hk, rfl, rfl, HA⟩ := hrel
    obtain ⟨A1, ca, hv, q1, q2, _⟩ := HA.out.1.rd okDomino
    subst hv
    unfold maxLen at q2
    have hml := HLEN.out k
    by_cases hlt : k < ls.length
    · have ht : decide ((k : Int) < (ls.length : Int)) = true := by simp only [decide_eq_true_eq]; omega
      obtain ⟨ad, rfl, hbl, hx, hy, hz⟩ := G3.out k hlt
      have hbl2 : (ad.add (k * 3)).block < w.heap.size := by rw [addBlock]; omega
      have hbw := HA.out.2.1
      have hx' := (hbw.cell (p := ad.add (k * 3)) hbl2).trans hx
      have hy' := (hbw.cell (p := ⟨(ad.add (k * 3)).block, (ad.add (k * 3)).off + 1, none⟩) hbl2).trans hy
      have hz' := (hbw.cell (p := ⟨(ad.add (k * 3)).block, (ad.add (k * 3)).off + 2, none⟩) hbl2).trans hz
      have hd := (domB_iff _ _ _).1 (HIN.out k hlt)
      have hbd : (0 ≤ lx ls k ∧ lx ls k ≤ 7) ∧ (0 ≤ ly ls k ∧ ly ls k ≤ 7) := by
        obtain ⟨h1, h2⟩ := hd
        cases hdd : ld ls k <;> rw [hdd] at h2 <;> simp at h2 <;> omega
      obtain ⟨p1, p2, p3, p4, p5, p6, p7, p8⟩ := grow_step (n : Int) (lx ls k) (ly ls k) (ld ls k) (by omega) hbd.1 hbd.2
      have HMK : Hid (mv (k + 1) = if hasL ls (grL n (lx ls k, ly ls k, ld ls k)) then mv k else mv k ++ [((grL n (lx ls k, ly ls k, ld ls k)).1 + 1, (grL n (lx ls k, ly ls k, ld ls k)).2.1 + 1, ld ls k)]) := HMS.out k
      rw [p1] at HMK
      have HM1 := Lib.hid (fun V => moves_any (n : Int) (lx ls k) (ly ls k) (ld ls k) (by omega) (by omega) (by omega) (by omega) V)
      have HM2 := Lib.hid (fun V => moves_any (n : Int) (lx ls k + mvX n (lx ls k) (ly ls k) (ld ls k)) (ly ls k + mvY n (lx ls k) (ly ls k) (ld ls k)) (ld ls k) (by omega) (by omega) (by omega) (by omega) V)
      rw [p2, p3] at HM2
      have hk0 : (0 : Int) ≤ (k : Int) := by omega
      have hk1 : (k : Int) < (ls.length : Int) := by omega
      obtain ⟨hb1, hb2⟩ := hbd
      obtain ⟨hb11, hb12⟩ := hb1
      obtain ⟨hb21, hb22⟩ := hb2
      obtain ⟨p41, p42⟩ := p4
      obtain ⟨p51, p52⟩ := p5
      obtain ⟨p71, p72⟩ := p7
      obtain ⟨p81, p82⟩ := p8
      obtain ⟨ox, HOX⟩ : ∃ ox, Hid (lx ls k + mvX n (lx ls k) (ly ls k) (ld ls k) = ox) := ⟨_, rfl⟩
      obtain ⟨oy, HOY⟩ : ∃ oy, Hid (ly ls k + mvY n (lx ls k) (ly ls k) (ld ls k) = oy) := ⟨_, rfl⟩
      rw [HOX.out, HOY.out] at HM2 HMK
      rw [HOX.out] at p41 p42
      rw [HOY.out] at p51 p52
      have hex := HOX.out
      have hey := HOY.out
      generalize mvX n (lx ls k) (ly ls k) (ld ls k) = dx at *
      generalize mvY n (lx ls k) (ly ls k) (ld ls k) = dy at *
      generalize lx ls k = x at *
      generalize ly ls k = y at *
      generalize ld ls k = d at *
      have hm32 : (mv k).length ≤ 32 := by omega
      have hdx : (-dx == -dx) = true := by simp
      have hdy : (-dy == -dy) = true := by simp
      obtain ⟨hs, HHS⟩ : ∃ b, Hid (hasL ls (ox, oy, d) = b) := ⟨_, rfl⟩
      rw [HHS.out] at HMK
      generalize mv k = ys at *
      clear hx hy hz hbw p1 p2 p3 p6 hd hml HOX HOY
      go_wp2_with fail
      obtain ⟨V0, hV0, k9, hbV0⟩ := one_alloc wr (triO x y d 46)
      rw [← hV0]
      obtain ⟨f0, f1, f2⟩ := tri_cells k9
      have HK0 := Lib.hid k9
      have HAV0 := Lib.hid (HA.out.below hbV0)
      clear hV0 k9 hbV0 hx' hy' hz'
      go_wp2_with fail
      refine (HM1.out _).mono ?_
      rintro e w3 ⟨rfl, hb3⟩
      have HA3 := Lib.hid (HAV0.out.below hb3)
      have HK3 := Lib.hid (blk_below HK0.out hb3)
      clear f0 f1 f2 hb3
      obtain ⟨f0, f1, f2⟩ := tri_cells HK3.out
      go_upto_region 9 with (fail)
      obtain ⟨V, hV, k1, hbV⟩ := one_alloc w3 (triO ox oy d 46)
      rw [← hV]
      have HAV := Lib.hid (HA3.out.below hbV)
      have HKD := Lib.hid (blk_below HK3.out hbV)
      have HKO := Lib.hid k1
      clear f0 f1 f2
      obtain ⟨f0, f1, f2⟩ := tri_cells k1
      clear hV k1 hbV
      go_wp2_with fail
      refine (HM2.out _).mono ?_
      rintro e w5 ⟨rfl, hb5⟩
      have HA5 := Lib.hid (HAV.out.below hb5)
      have HKD5 := Lib.hid (blk_below HKD.out hb5)
      have HKO5 := Lib.hid (blk_below HKO.out hb5)
      clear f0 f1 f2 hb5
      obtain ⟨f0, f1, f2⟩ := tri_cells HKO5.out
      go_wp2_with fail
      refine (hasDomino_any _ ls ox oy d w.heap.size _ ((HV.out.more hB).below HA5.out.2.1) HA5.out.2.1.size).mono ?_
      rintro e w6 ⟨rfl, hb6⟩
      rw [HHS.out]
      have HA6 := Lib.hid (HA5.out.below hb6)
      have HKD6 := Lib.hid (blk_below HKD5.out hb6)
      have HKO6 := Lib.hid (blk_below HKO5.out hb6)
      clear f0 f1 f2 hb6
      obtain ⟨f0, f1, f2⟩ := tri_cells HKO6.out
      obtain ⟨e0, e1, e2⟩ := tri_cells HKD6.out
      cases hs
      · have HMV : Hid (mv (k + 1) = ys ++ [(ox + 1, oy + 1, d)]) := by unfold Hid; rw [HMK.out]; rfl
        go_wp2_with (at_builtin; refine wpList_push okDomino rfl _ _ rfl HA6.out rfl (ox + 1, oy + 1, d) _ rfl _ rfl rfl (by omega) ?_; intro v10 w10 HA10 HG10)
        go_roundw
        case rel => exact ⟨k + 1, _, by omega, by go_num, rfl, by rw [HMV.out]; exact HA10⟩
        case measure => simp [intOf]; omega
      · have HMV : Hid (mv (k + 1) = ys) := by unfold Hid; rw [HMK.out]; rfl
        go_wp2_with fail
        go_roundw
        case rel => exact ⟨k + 1, _, by omega, by go_num, rfl, by rw [HMV.out]; exact HA6⟩
        case measure => simp [intOf]; omega
    · obtain rfl : k = ls.length := by omega
      have ht : decide ((ls.length : Int) < (ls.length : Int)) = false := by simp
      have HRD := Lib.hid (HA.out.1.rd okDomino)
      have HBA := Lib.hid HA.out.2.1
      go_wp2_with fail
      refine (SortDominoes_any _ (mv ls.length) _ _ HRD.out (Nat.le_refl _)).mono ?_
      rintro e w9 ⟨u9, rfl, ho9, hb9⟩
      have HO9 := Lib.hid (ho9.mono HBA.out.size)
      have HB9 := Lib.hid (HBA.out.trans (hb9.mono HBA.out.size))
      clear ho9 hb9
      go_wp2_with fail
      exact bodyPost_ret (v := .tuple #[u9, .bool true]) (by simp [results, Try.results22, go_sem]) rfl ⟨_, rfl, HO9.out, HB9.out⟩
end Go.Proofs.Ytehnbalbpfmijaa

namespace Go.Proofs.Ytehnbalbpfmijaa
open Go.RowKit
set_option linter.unusedVariables false

set_option maxRecDepth 100000 in
set_option maxHeartbeats 4000000 in
theorem GrowDiamond_any (n : Int) (v : Value) (ls : List Lk) (B : Nat) (w : World) (h : RdF elDomino w B v ls) (hB : B ≤ w.heap.size) :
    Calls Try.prog 22 #[.int .i64 n, v] w (RetGrow w (growB n ls) (growZ n ls)) := by
  cases hf : growB n ls
  · have HZ : Hid (growZ n ls = []) := by unfold Hid growZ; rw [hf]; rfl
    rw [HZ.out]
    cases t1 : inB n 1 3
    · clear hf
      go_enter Try.func22, Try.ntmps22
      go_wp2_with fail
      refine (within_any _ _ _ _).mono ?_
      rintro e w' ⟨rfl, rfl⟩
      rw [t1]
      go_wp2_with fail
      exact bodyPost_ret (v := .tuple #[.slice none 0 0, .bool false]) (by simp [results, Try.results22, go_sem]) rfl ⟨_, rfl, OwnF.nil, Below.refl _ _⟩
    · have ha := (inB_iff _ _ _).1 t1
      obtain ⟨n, rfl⟩ := Int.eq_ofNat_of_zero_le (show 0 ≤ n by omega)
      have ht : sTileB (setZ (diamZ n)) ls = false := by unfold growB at hf; rw [t1] at hf; simpa using hf
      have hok := diam_ok n (by omega)
      have HT : Hid (tileB (setZ (diamZ n)) ls = false) := by unfold Hid; rw [tile_eq (setZ_lt hok)]; exact ht
      have HOK := Lib.hid hok
      have HV := Lib.hid h
      clear hok ht h hf
      go_enter Try.func22, Try.ntmps22
      go_wp2_with fail
      refine (within_any _ _ _ _).mono ?_
      rintro e w' ⟨rfl, rfl⟩
      rw [t1]
      go_wp2_with fail
      refine (Diamond_yes n (by omega) _).mono ?_
      rintro e w1 ⟨u1, rfl, hr1, hb1⟩
      have HR1 := Lib.hid hr1
      have HB1 := Lib.hid hb1
      clear hb1 hr1
      go_wp2_with fail
      refine (IsTiling_yes _ _ _ ls _ _ HR1.out ((HV.out.below (HB1.out.mono hB)).more (Nat.le_trans hB HB1.out.size)) (Nat.le_refl _) HOK.out).mono ?_
      rintro e w2 ⟨rfl, hb2⟩
      rw [HT.out]
      have HB2 := Lib.hid (HB1.out.trans (hb2.mono HB1.out.size))
      clear hb2
      go_wp2_with fail
      exact bodyPost_ret (v := .tuple #[.slice none 0 0, .bool false]) (by simp [results, Try.results22, go_sem]) rfl ⟨_, rfl, OwnF.nil, HB2.out⟩
  · have h9 := hf
    unfold growB at h9
    simp only [Bool.and_eq_true, inB_iff] at h9
    obtain ⟨n, rfl⟩ := Int.eq_ofNat_of_zero_le (show 0 ≤ n by omega)
    have HZ : growZ n ls = sortI (growTo n ls ls.length) (growTo n ls ls.length).length := by unfold growZ; rw [hf]; rfl
    rw [HZ]
    exact GrowDiamond_yes n v ls B w h hB (by omega) h9.2

end Go.Proofs.Ytehnbalbpfmijaa

namespace Go.Proofs.Ytehnbalbpfmijaa
open Go.RowKit
set_option linter.unusedVariables false

theorem grl_eq (n x y : Int) (d : Bool) : grL n (x, y, d) = (if d then x + (if stepB n x y then -1 else 1) else x, if d then y else y + (if stepB n x y then -1 else 1), d) := by cases d <;> simp [grL]

end Go.Proofs.Ytehnbalbpfmijaa

namespace Go.Proofs.Ytehnbalbpfmijaa
open Go.RowKit
set_option linter.unusedVariables false

/-! ### Rows -/
def rwC (zs : List Int) : Array Value := (zs.map (Value.int .i64)).toArray
theorem rwC_get (zs : List Int) (k : Nat) (h : k < zs.length) : (rwC zs)[k]? = some (.int .i64 (el zs k)) := by simp [rwC, el_get _ _ h, h]
theorem rwC_set (zs : List Int) (k : Nat) (z : Int) : (rwC zs).setIfInBounds k (.int .i64 z) = rwC (zs.set k z) := by
  apply Array.ext'
  simp [rwC, List.map_set]
theorem rep_set (n k : Nat) : (List.replicate n (0 : Int)).set k 0 = List.replicate n 0 := by
  apply List.ext_getElem
  · simp
  · intro i h1 h2; simp
theorem rep_el (n k : Nat) : el (List.replicate n (0 : Int)) k = 0 := by
  unfold el
  rw [List.getD_eq_getElem?_getD, List.getElem?_replicate]
  split <;> rfl
def zeros : List Int := List.replicate 256 0
theorem zeros_len : zeros.length = 256 := List.length_replicate
theorem zeros_set (k : Nat) : zeros.set k 0 = zeros := rep_set 256 k
theorem zeros_el (k : Nat) : el zeros k = 0 := rep_el 256 k
theorem made256 : madeCells #[.int .i64 0] 256 = rwC zeros := by kernel_rfl
/-- A row of 256 integers. -/
def Row256 (w : World) (g : Nat) (zs : List Int) : Prop := w.heap[g]? = some (.cells (rwC zs) 3 (0, 0)) ∧ zs.length = 256
theorem Row256.cell {w : World} {g : Nat} {zs : List Int} (h : Row256 w g zs) {k : Nat} (hk : k < 256) : w.cell? ⟨g, k, none⟩ = some (.int .i64 (el zs k)) := by rw [blk_cell h.1]; exact rwC_get _ _ (by rw [h.2]; exact hk)
theorem Row256.free {w : World} {g : Nat} {zs : List Int} (h : Row256 w g zs) (k : Nat) : w.frozen? ⟨g, k, none⟩ = false := blk_free h.1
theorem Row256.set {w : World} {g : Nat} {zs : List Int} (h : Row256 w g zs) (k : Nat) (z : Int) : Row256 (w.setCell ⟨g, k, none⟩ (.int .i64 z)) g (zs.set k z) := by
  refine ⟨?_, by simpa using h.2⟩
  rw [blk_setCell h.1, rwC_set]
theorem Row256.keep {w w' : World} {g : Nat} {zs : List Int} (h : Row256 w g zs) (hk : w'.heap[g]? = w.heap[g]?) : Row256 w' g zs := ⟨hk.trans h.1, h.2⟩
theorem Row256.made (w : World) : Row256 (w.alloc (.cells (madeCells #[.int .i64 0] 256) 3)) w.heap.size zeros := ⟨by rw [made256]; exact heap_alloc_new w _, zeros_len⟩

/-! ### The count -/
def putZ (nx : List Int) (j : Nat) (n : Int) : List Int := nx.set j (wrap64 (el nx j + n))
def inZ (h b r : Bool) (x : Nat) (n : Int) (k : Nat) (nx : List Int) : List Int :=
  if n = 0 then nx
  else if h then
    (if k.testBit x then putZ nx (k - 2 ^ x) n
     else if r && !k.testBit (x + 1) then putZ (if b then putZ nx (k ||| 2 ^ x) n else nx) (k ||| 2 ^ (x + 1)) n else if b then putZ nx (k ||| 2 ^ x) n else nx)
  else if k.testBit x then nx else putZ nx k n
def stepTo (h b r : Bool) (x : Nat) (zs : List Int) : Nat → List Int
  | 0 => zeros
  | k + 1 => inZ h b r x (el zs k) k (stepTo h b r x zs k)
/-- A set has a cell that may lie outside. -/
def hasC (T x y : Nat) : Bool := decide (x ≤ 7) && decide (y ≤ 7) && hasB T x y
def profTo (T : Nat) : Nat → List Int
  | 0 => zeros.set 0 1
  | i + 1 => stepTo (hasC T (i % 8) (i / 8)) (hasC T (i % 8) (i / 8 + 1)) (hasC T (i % 8 + 1) (i / 8)) (i % 8) (profTo T i) 256
def profZ (T : Nat) : Int := el (profTo T 64) 0

theorem putZ_len (nx : List Int) (j : Nat) (n : Int) : (putZ nx j n).length = nx.length := by simp [putZ]
theorem inZ_len (h b r : Bool) (x : Nat) (n : Int) (k : Nat) (nx : List Int) : (inZ h b r x n k nx).length = nx.length := by
  unfold inZ
  split
  · rfl
  · split
    · split
      · exact putZ_len _ _ _
      · split
        · rw [putZ_len]; split <;> simp [putZ_len]
        · split <;> simp [putZ_len]
    · split <;> simp [putZ_len]
theorem stepTo_len (h b r : Bool) (x : Nat) (zs : List Int) : ∀ k, (stepTo h b r x zs k).length = 256
  | 0 => zeros_len
  | k + 1 => by rw [stepTo, inZ_len]; exact stepTo_len h b r x zs k
theorem profTo_len (T : Nat) : ∀ i, (profTo T i).length = 256
  | 0 => by rw [profTo, List.length_set]; exact zeros_len
  | i + 1 => stepTo_len _ _ _ _ _ _
/-- All numbers are in range. -/
def WOk (zs : List Int) : Prop := ∀ j, wrap64 (el zs j) = el zs j
theorem wrap_wrap (a : Int) : wrap64 (wrap64 a) = wrap64 a := by unfold wrap64; omega
theorem el_set' (zs : List Int) (k : Nat) (z : Int) (j : Nat) : el (zs.set k z) j = if j = k ∧ k < zs.length then z else el zs j := by
  unfold el
  simp only [List.getD_eq_getElem?_getD, List.getElem?_set]
  by_cases e : k = j
  · subst e
    by_cases h : k < zs.length
    · simp [h]
    · simp [h]
  · simp [e, show ¬ j = k from fun h => e h.symm]
theorem WOk.put {nx : List Int} (h : WOk nx) (j : Nat) (n : Int) : WOk (putZ nx j n) := fun i => by
  unfold putZ
  rw [el_set']
  split
  · exact wrap_wrap _
  · exact h i
theorem WOk.zeros : WOk zeros := fun j => by rw [zeros_el]; simp [wrap64]
theorem WOk.in_ {h b r : Bool} {x k : Nat} {n : Int} {nx : List Int} (hn : WOk nx) : WOk (inZ h b r x n k nx) := by
  unfold inZ
  split
  · exact hn
  · split
    · split
      · exact hn.put _ _
      · split
        · refine WOk.put ?_ _ _; split
          · exact hn.put _ _
          · exact hn
        · split
          · exact hn.put _ _
          · exact hn
    · split
      · exact hn
      · exact hn.put _ _
theorem WOk.step (h b r : Bool) (x : Nat) (zs : List Int) : ∀ k, WOk (stepTo h b r x zs k)
  | 0 => WOk.zeros
  | k + 1 => (WOk.step h b r x zs k).in_
theorem WOk.prof (T : Nat) : ∀ i, WOk (profTo T i)
  | 0 => fun j => by
    rw [profTo, el_set']
    split
    · simp [wrap64]
    · rw [zeros_el]; simp [wrap64]
  | i + 1 => WOk.step _ _ _ _ _ _
/-- The program's put: where nothing stands, the number alone. -/
theorem putZ_zero {nx : List Int} {j : Nat} {n : Int} (h : el nx j = 0) (hn : wrap64 n = n) : nx.set j n = putZ nx j n := by
  unfold putZ; rw [h, Int.zero_add, hn]

/-! ### Bits -/
theorem bits_tab : ((List.range 256).all fun k => (List.range 8).all fun x =>
    ((bits .and .i64 (k : Int) ((2 ^ x : Nat) : Int) == 0) == !k.testBit x) && (!k.testBit x || bits .andNot .i64 (k : Int) ((2 ^ x : Nat) : Int) == ((k - 2 ^ x : Nat) : Int)) && (bits .or .i64 (k : Int) ((2 ^ x : Nat) : Int) == ((k ||| 2 ^ x : Nat) : Int)) &&
    (bits .and .i64 ((k : Int) / ((2 ^ x : Nat) : Int)) 1 == if k.testBit x then 1 else 0) && decide (k ||| 2 ^ x < 256)) = true := by decide +kernel
theorem bits_at (k x : Nat) (hk : k < 256) (hx : x ≤ 7) : ((bits .and .i64 (k : Int) ((2 ^ x : Nat) : Int) == 0) = !k.testBit x) ∧ (k.testBit x = true → bits .andNot .i64 (k : Int) ((2 ^ x : Nat) : Int) = ((k - 2 ^ x : Nat) : Int)) ∧
    (bits .or .i64 (k : Int) ((2 ^ x : Nat) : Int) = ((k ||| 2 ^ x : Nat) : Int)) ∧ (bits .and .i64 ((k : Int) / ((2 ^ x : Nat) : Int)) 1 = if k.testBit x then 1 else 0) ∧ k ||| 2 ^ x < 256 := by
  have h := bits_tab
  rw [List.all_eq_true] at h
  have h := h k (by simpa using hk)
  rw [List.all_eq_true] at h
  have h := h x (by simp; omega)
  simp only [Bool.and_eq_true, Bool.or_eq_true, beq_iff_eq, decide_eq_true_eq] at h
  obtain ⟨⟨⟨⟨h1, h2⟩, h3⟩, h4⟩, h5⟩ := h
  refine ⟨h1, fun ht => ?_, h3, h4, h5⟩
  rcases h2 with h2 | h2
  · rw [ht] at h2; simp at h2
  · exact h2
end Go.Proofs.Ytehnbalbpfmijaa

namespace Go.Proofs.Ytehnbalbpfmijaa
open Go.RowKit
set_option linter.unusedVariables false

/-! ### The closures -/
theorem count1_any (a b : Int) (w : World) : Calls Try.prog 174 #[.int .i64 a, .int .i64 b] w fun e w' => e = .returned (.int .i64 (wrap64 (a + b))) ∧ w = w' := by
  go_enter Try.func174, Try.ntmps174
  go_wp2_with fail
  go_ret
  exact ⟨rfl, rfl⟩
theorem count2_any (n x y : Int) (d : Bool) (w : World) : Calls Try.prog 175 #[.int .i64 n, .agg #[.int .i64 x, .int .i64 y, .bool d]] w fun e w' => e = .returned (.int .i64 (if x < 0 then 1 else n)) ∧ Below w.heap.size w w' := by
  by_cases h : x < 0
  · rw [if_pos h]
    go_enter Try.func175, Try.ntmps175
    go_wp2_with fail
    go_ret
    exact ⟨rfl, (Below.refl _ _).alloc (Nat.le_refl _) _⟩
  · rw [if_neg h]
    go_enter Try.func175, Try.ntmps175
    go_wp2_with fail
    go_ret
    exact ⟨rfl, (Below.refl _ _).alloc (Nat.le_refl _) _⟩

abbrev fn1 : Value := .func (.func 174) #[] #[]
abbrev fn2 : Value := .func (.func 175) #[] #[]
/-! ### put -/
/-- What put finds: the variable of the next row, the row, none, and add. -/
structure PutS (w : World) (pn p0 g : Nat) (nx : List Int) : Prop where
  en : w.heap[pn]? = some (.cells #[.slice (some ⟨g, 0, none⟩) 256 256] 31 (0, 0))
  e0 : w.heap[p0]? = some (.cells #[.int .i64 0] 3 (0, 0))
  ea : w.heap[p0 + 1]? = some (.cells #[fn1] 27 (0, 0))
  row : Row256 w g nx
def PutPost (w : World) (g : Nat) (nx : List Int) (e : Ending) (w' : World) : Prop := e = .returned (.tuple #[]) ∧ Row256 w' g nx ∧ w.grownBy w' (some g)
set_option maxRecDepth 100000 in
set_option maxHeartbeats 2000000 in
theorem put_any (k : Nat) (hk : k < 256) (n : Int) (hn : wrap64 n = n) (pn p0 g : Nat) (nx : List Int) (w : World) (h : PutS w pn p0 g nx) :
    Calls Try.prog 177 #[.int .i64 (k : Int), .int .i64 n, .pointer (some ⟨pn, 0, none⟩), .pointer (some ⟨p0, 0, none⟩), .pointer (some ⟨p0 + 1, 0, none⟩)] w (PutPost w g (putZ nx k n)) := by
  have c1 : w.cell? ⟨pn, 0, none⟩ = some (.slice (some ⟨g, 0, none⟩) 256 256) := cell_of_one h.en
  have c2 : w.cell? ⟨p0, 0, none⟩ = some (.int .i64 0) := cell_of_one h.e0
  have c3 : w.cell? ⟨p0 + 1, 0, none⟩ = some fn1 := cell_of_one h.ea
  have c4 := h.row.cell hk
  have c5 := h.row.free k
  have HR := Lib.hid h.row
  have hk0 : (0 : Int) ≤ (k : Int) := by omega
  have hk1 : (k : Int) < 256 := by omega
  have HN := Lib.hid hn
  clear h hn
  by_cases hz : el nx k = 0
  · have HZ := Lib.hid (putZ_zero (n := n) hz HN.out)
    rw [hz] at c4
    clear hz
    go_enter Try.func177, Try.ntmps177
    go_wp2_with fail
    go_quiet (fail)
    go_wp2_with fail
    go_end0
    rw [← HZ.out]
    exact ⟨rfl, (show Row256 ((w.drewN _).setCell ⟨g, k, none⟩ (.int .i64 n)) g (nx.set k n) from (HR.out.keep rfl).set k n), (grownBy_drewN w _ (some g)).trans (grownBy_set _ g k _)⟩
  · have t1 : (el nx k == 0) = false := by rw [beq_eq_false_iff_ne]; exact hz
    have HZ : Hid (putZ nx k n = nx.set k (wrap64 (el nx k + n))) := rfl
    generalize el nx k = q at *
    clear hz
    go_enter Try.func177, Try.ntmps177
    go_wp2_with fail
    go_quiet (fail)
    have d1 : (w.drewN nq).cell? ⟨pn, 0, none⟩ = some (.slice (some ⟨g, 0, none⟩) 256 256) := c1
    have d3 : (w.drewN nq).cell? ⟨p0 + 1, 0, none⟩ = some fn1 := c3
    have d4 : (w.drewN nq).cell? ⟨g, k, none⟩ = some (.int .i64 q) := c4
    have HDR : Hid (Row256 (w.drewN nq) g nx) := HR.out.keep rfl
    have HG1 := Lib.hid (grownBy_drewN w nq (some g))
    clear c1 c2 c3 c4 c5
    generalize w.drewN nq = W0 at *
    go_wp2_with fail
    refine wp_region_still_tail 10 (by kernel_rfl) (by kernel_rfl) ?_
    simp only [List.take_succ_cons, List.take_zero, List.drop_succ_cons, List.drop_zero]
    repeat still_step
    still_call ((count1_any q n _).mono fun _ _ ⟨he, hw⟩ => ⟨he, hw.symm⟩)
    repeat still_step
    refine wpStill_nil ?_
    change wpList _ _ _ _ _ W0.drew
    have HDR2 : Hid (Row256 W0.drew g nx) := HDR.out.keep rfl
    have HG2 : Hid (w.grownBy W0.drew (some g)) := HG1.out.trans (grownBy_drewN W0 1 _)
    have c6 : W0.drew.frozen? ⟨g, k, none⟩ = false := HDR2.out.free k
    have c7 := HDR2.out.cell hk
    clear d1 d3 d4
    generalize W0.drew = W at *
    go_wp2_with fail
    go_end0
    rw [HZ.out]
    exact ⟨rfl, HDR2.out.set k _, HG2.out.trans (grownBy_set _ g k _)⟩

/-! ### has, at any place near -/
set_option maxHeartbeats 400000 in
theorem has_any (T x y : Nat) (hT : T < 18446744073709551616) (hx : x ≤ 8) (hy : y ≤ 8) (w : World) :
    Calls Try.prog 78 #[.int .u64 (T : Int), spotV x y] w fun e w' => e = .returned (.bool (hasC T x y)) ∧ Below w.heap.size w w' := by
  by_cases h : x ≤ 7 ∧ y ≤ 7
  · have e : hasC T x y = hasB T x y := by simp [hasC, h.1, h.2]
    rw [e]
    exact has_yes T x y hT h.1 h.2 w
  · have hok : spotB 7 x y = false := by
      cases hs : spotB 7 x y
      · rfl
      · have := (spotB_iff _ _ _).1 hs; omega
    have e : hasC T x y = false := by
      unfold hasC
      by_cases h7 : x ≤ 7
      · have : ¬ y ≤ 7 := fun h9 => h ⟨h7, h9⟩
        simp [this]
      · simp [h7]
    rw [e]
    clear h e
    go_enter Try.func78, Try.ntmps78
    go_wp2_with fail
    refine (CellOk_any _ _ _).mono ?_
    rintro e w1 ⟨rfl, hb1⟩
    rw [hok]
    go_wp2_with fail
    go_ret
    exact ⟨rfl, ((Below.refl _ _).alloc (Nat.le_refl _) _).trans (hb1.mono (by simp))⟩

theorem cellAt_any (k : Nat) (hk : k ≤ 63) (w : World) :
    Calls Try.prog 137 #[.int .i64 (k : Int)] w fun e w' => e = .returned (spotV ((k % 8 : Nat) : Int) ((k / 8 : Nat) : Int)) ∧ Below w.heap.size w w' := by
  have e1 : (k : Int) % 8 = ((k % 8 : Nat) : Int) := by omega
  have e2 : (k : Int) / 8 = ((k / 8 : Nat) : Int) := by omega
  have HE1 := Lib.hid e1
  have HE2 := Lib.hid e2
  clear e1 e2
  go_enter Try.func137, Try.ntmps137
  go_wp2_with fail
  rw [HE1.out, HE2.out]
  exact bodyPost_ret (v := spotV ((k % 8 : Nat) : Int) ((k / 8 : Nat) : Int)) (by simp [results, Try.results137, go_sem]) rfl ⟨rfl, (Below.refl _ _).alloc (Nat.le_refl _) _⟩

/-! ### The state of the walk -/
structure PF (w wr : World) (p5 gn p12 gx pn x y : Nat) (zs nx : List Int) : Prop where
  e5 : wr.heap[p5]? = some (.cells #[.int .i64 0] 3 (0, 0))
  e6 : wr.heap[p5 + 1]? = some (.cells #[fn1] 27 (0, 0))
  rn : Row256 wr gn zs
  ec : wr.heap[p12]? = some (.cells #[.int .i64 (x : Int), .int .i64 (y : Int)] 44 (0, 0))
  en : wr.heap[pn]? = some (.cells #[.slice (some ⟨gx, 0, none⟩) 256 256] 31 (0, 0))
  rx : Row256 wr gx nx
  big : Below w.heap.size w wr
  l5 : w.heap.size ≤ p5
  n5 : gx ≠ p5 ∧ gx ≠ p5 + 1
  nn : gx ≠ gn
  nc : gx ≠ p12
  np : gx ≠ pn
  lx : w.heap.size ≤ gx
section
variable {w wr w1 : World} {p5 gn p12 gx pn x y : Nat} {zs nx nx' : List Int}
theorem PF.below (h : PF w wr p5 gn p12 gx pn x y zs nx) (hb : Below wr.heap.size wr w1) : PF w w1 p5 gn p12 gx pn x y zs nx :=
  ⟨blk_below h.e5 hb, blk_below h.e6 hb, h.rn.keep (hb.block _ (lt_of_block h.rn.1)), blk_below h.ec hb, blk_below h.en hb, h.rx.keep (hb.block _ (lt_of_block h.rx.1)), h.big.trans (hb.mono h.big.size), h.l5, h.n5, h.nn, h.nc, h.np, h.lx⟩
theorem PF.put (h : PF w wr p5 gn p12 gx pn x y zs nx) (hr : Row256 w1 gx nx') (hg : wr.grownBy w1 (some gx)) : PF w w1 p5 gn p12 gx pn x y zs nx' := by
  have hk : ∀ k, k < wr.heap.size → gx ≠ k → w1.heap[k]? = wr.heap[k]? := fun k h1 h2 => hg.block k h1 (fun e => h2 (Option.some.inj e).symm)
  exact ⟨(hk _ (lt_of_block h.e5) h.n5.1).trans h.e5, (hk _ (lt_of_block h.e6) h.n5.2).trans h.e6, h.rn.keep (hk _ (lt_of_block h.rn.1) h.nn), (hk _ (lt_of_block h.ec) h.nc).trans h.ec, (hk _ (lt_of_block h.en) h.np).trans h.en, hr,
    h.big.grown hg h.big.size (fun k hk => by obtain rfl := Option.some.inj hk; exact h.lx), h.l5, h.n5, h.nn, h.nc, h.np, h.lx⟩
theorem PF.puts (h : PF w wr p5 gn p12 gx pn x y zs nx) : PutS wr pn p5 gx nx := ⟨h.en, h.e5, h.e6, h.rx⟩
theorem PF.cells (h : PF w wr p5 gn p12 gx pn x y zs nx) : wr.cell? ⟨p5, 0, none⟩ = some (.int .i64 0) ∧ wr.cell? ⟨p12, 0, none⟩ = some (.int .i64 (x : Int)) ∧ wr.cell? ⟨p12, 1, none⟩ = some (.int .i64 (y : Int)) ∧ wr.cell? ⟨pn, 0, none⟩ = some (.slice (some ⟨gx, 0, none⟩) 256 256) :=
  ⟨cell_of_one h.e5, by rw [blk_cell h.ec]; rfl, by rw [blk_cell h.ec]; rfl, cell_of_one h.en⟩
end
end Go.Proofs.Ytehnbalbpfmijaa

namespace Go.Proofs.Ytehnbalbpfmijaa
open Go.RowKit
set_option linter.unusedVariables false

theorem shl_p (x : Nat) (hx : x ≤ 7) : wrap64 ((2 : Int) ^ x) = ((2 ^ x : Nat) : Int) := by
  have h : (2 ^ x : Nat) ≤ 2 ^ 7 := Nat.pow_le_pow_right (by omega) hx
  have e : ((2 : Int) ^ x) = ((2 ^ x : Nat) : Int) := by simp
  rw [e]
  generalize (2 ^ x : Nat) = p at *
  simp at h
  unfold wrap64
  omega

structure PB (w wr : World) (p5 gn : Nat) (zs : List Int) : Prop where
  e5 : wr.heap[p5]? = some (.cells #[.int .i64 0] 3 (0, 0))
  e6 : wr.heap[p5 + 1]? = some (.cells #[fn1] 27 (0, 0))
  rn : Row256 wr gn zs
  big : Below w.heap.size w wr
  l5 : w.heap.size ≤ p5
  ln : p5 + 1 < gn
section
variable {w wr w1 : World} {p5 gn : Nat} {zs : List Int}
theorem PB.below (h : PB w wr p5 gn zs) (hb : Below wr.heap.size wr w1) : PB w w1 p5 gn zs :=
  ⟨blk_below h.e5 hb, blk_below h.e6 hb, h.rn.keep (hb.block _ (lt_of_block h.rn.1)), h.big.trans (hb.mono h.big.size), h.l5, h.ln⟩
theorem PB.set (h : PB w wr p5 gn zs) (k : Nat) (z : Int) : PB w (wr.setCell ⟨gn, k, none⟩ (.int .i64 z)) p5 gn (zs.set k z) := by
  have hl := h.ln
  have hl5 := h.l5
  have hk : ∀ j, j ≠ gn → (wr.setCell ⟨gn, k, none⟩ (.int .i64 z)).heap[j]? = wr.heap[j]? := fun j hj => Below.heap_setCell _ _ _ _ hj
  exact ⟨(hk _ (by omega)).trans h.e5, (hk _ (by omega)).trans h.e6, h.rn.set k z, h.big.setCell (by show w.heap.size ≤ gn; omega) _, h.l5, h.ln⟩
theorem PB.drew (h : PB w wr p5 gn zs) : PB w wr.drew p5 gn zs := h.below (Below.refl _ _).drew
end

set_option maxRecDepth 100000 in
set_option maxHeartbeats 8000000 in
theorem profile_any (T : Nat) (hT : T < 18446744073709551616) (w : World) :
    Calls Try.prog 173 #[.int .u64 (T : Int), .int .i64 0, fn1, fn2] w fun e w' => e = .returned (.int .i64 (profZ T)) ∧ Below w.heap.size w w' := by
  obtain ⟨pf, HPF⟩ : ∃ pf : Nat → List Int, Hid (pf = profTo T) := ⟨_, rfl⟩
  obtain ⟨z0, HZ0⟩ : ∃ z : List Int, Hid (z = zeros) := ⟨_, rfl⟩
  have HPS : Hid (∀ i, pf (i + 1) = stepTo (hasC T (i % 8) (i / 8)) (hasC T (i % 8) (i / 8 + 1)) (hasC T (i % 8 + 1) (i / 8)) (i % 8) (pf i) 256) := by rw [HPF.out]; exact fun i => rfl
  have HPW : Hid (∀ i, WOk (pf i)) := by rw [HPF.out]; exact WOk.prof T
  have HP00 : Hid (pf 0 = z0.set 0 1) := by rw [HPF.out, HZ0.out]; rfl
  have HFZ : Hid (∀ r, pf 64 = r → profZ T = el r 0) := by rw [HPF.out]; exact fun r h => by rw [← h]; rfl
  have HST0 : Hid (∀ (h b r : Bool) (x : Nat) (zs : List Int), stepTo h b r x zs 0 = z0) := by rw [HZ0.out]; exact fun _ _ _ _ _ => rfl
  have HZL : Hid (z0.length = 256) := by rw [HZ0.out]; exact zeros_len
  have HZS0 : Hid (∀ k, z0.set k 0 = z0) := by rw [HZ0.out]; exact zeros_set
  obtain ⟨res, HRES⟩ : ∃ r, Hid (profZ T = r) := ⟨_, rfl⟩
  rw [HRES.out] at HFZ ⊢
  have hmk : ∀ w : World, (Instr.makeSlice 31 (.int .i64 256) (.int .i64 256)).run Try.prog w = .ok (.slice (some ⟨w.heap.size, 0, none⟩) 256 256) (w.alloc (.cells (madeCells #[.int .i64 0] 256) 3)) := fun _ => by kernel_rfl
  have hmf : ∀ (fn : Fn) (first cap : Array Value) (w : World), (Instr.makeFunc fn first cap).run Try.prog w = .ok (.func fn first cap) w := fun _ _ _ _ => rfl
  rw [made256, ← HZ0.out] at hmk
  clear HPF HZ0 HRES
  go_enter Try.func173, Try.ntmps173
  go_wp2_with fail
  obtain ⟨W, hW, k0, k1, k2, hb0⟩ := three_alloc w (.cells #[.int .i64 0] 3) (.cells #[fn1] 27) (.cells (rwC z0) 3)
  rw [← hW]
  have HP0 : Hid (PB w W w.heap.size (w.heap.size + 2) z0) := ⟨k0, k1, ⟨k2, HZL.out⟩, hb0, Nat.le_refl _, by omega⟩
  clear hW k0 k1 k2 hb0
  go_loopw [22] (fun s wr => ∃ k : Nat, k ≤ 256 ∧ s = .int .i64 k ∧ Hid (PB w wr w.heap.size (w.heap.size + 2) z0)) (fun s _ => 256 - (intOf s).toNat)
  case atStart => exact ⟨0, Nat.zero_le _, rfl, HP0⟩
  case round =>
    obtain ⟨k, hk, rfl, HP⟩ := hrel
    have c5 : wr.cell? ⟨w.heap.size, 0, none⟩ = some (.int .i64 0) := cell_of_one HP.out.e5
    by_cases hlt : k < 256
    · have ht : decide ((k : Int) < 256) = true := by simp only [decide_eq_true_eq]; omega
      have hk0 : (0 : Int) ≤ (k : Int) := by omega
      have hk1 : (k : Int) < 256 := by omega
      have cr : wr.cell? ⟨w.heap.size + 1 + 1, k, none⟩ = _ := HP.out.rn.cell hlt
      have fr : wr.frozen? ⟨w.heap.size + 1 + 1, k, none⟩ = false := HP.out.rn.free k
      have HP2 := Lib.hid (HP.out.set k 0)
      rw [HZS0.out] at HP2
      go_wp2_with fail
      go_roundw
      case rel => exact ⟨k + 1, by omega, by go_num, HP2⟩
      case measure => simp [intOf]; omega
    · have ht : decide ((k : Int) < 256) = false := by simp only [decide_eq_false_iff_not]; omega
      have HP1 : Hid (PB w wr w.heap.size (w.heap.size + 2) z0) := HP
      clear hk hlt
      go_wp2_with fail
      refine (count2_any _ _ _ _ _).mono ?_
      rintro e w2 ⟨rfl, hb2⟩
      have HP2 := Lib.hid (HP1.out.below hb2)
      have fr2 : w2.frozen? ⟨w.heap.size + 1 + 1, 0, none⟩ = false := HP2.out.rn.free 0
      have cr2 : w2.cell? ⟨w.heap.size + 1 + 1, 0, none⟩ = _ := HP2.out.rn.cell (k := 0) (by omega)
      have HP3 : Hid (PB w (w2.setCell ⟨w.heap.size + 2, 0, none⟩ (.int .i64 1)) w.heap.size (w.heap.size + 2) (pf 0)) := by rw [HP00.out]; exact HP2.out.set 0 1
      clear c5 hb2 HP HP1
      go_wp2_with fail
      go_loopw [9, 36] (fun v s wr => ∃ (i gn : Nat), i ≤ 64 ∧ s = .int .i64 i ∧ v = .slice (some ⟨gn, 0, none⟩) 256 256 ∧ Hid (PB w wr w.heap.size gn (pf i))) (fun _ s _ => 64 - (intOf s).toNat)
      case atStart => exact ⟨0, _, Nat.zero_le _, rfl, rfl, HP3⟩
      case round =>
        obtain ⟨i, gn, hi, rfl, rfl, HQ⟩ := hrel
        by_cases hli : i < 64
        · have hti : decide ((i : Int) < 64) = true := by simp only [decide_eq_true_eq]; omega
          have HS := Lib.hid (HPS.out i)
          have HWO := Lib.hid (HPW.out i)
          have hx7 : i % 8 ≤ 7 := by omega
          have hy7 : i / 8 ≤ 7 := by omega
          go_wp2_with fail
          refine (cellAt_any i (by omega) _).mono ?_
          rintro e w1 ⟨rfl, hb1⟩
          have HQ1 := Lib.hid (HQ.out.below hb1)
          obtain ⟨zs, HZS⟩ : ∃ zs, Hid (pf i = zs) := ⟨_, rfl⟩
          obtain ⟨zs2, HZS2⟩ : ∃ zs, Hid (pf (i + 1) = zs) := ⟨_, rfl⟩
          rw [HZS.out] at HQ1 HS HWO
          rw [HZS2.out] at HS
          generalize i % 8 = x at *
          generalize i / 8 = y at *
          clear hb1 HQ
          go_wp2_with fail
          obtain ⟨W2, hW2, q0, q1, q2, hb2⟩ := three_alloc w1 (.cells #[.int .i64 (x : Int), .int .i64 (y : Int)] 44) (.cells (rwC z0) 3) (.cells #[.slice (some ⟨w1.heap.size + 1, 0, none⟩) 256 256] 31)
          rw [← hW2]
          have HF0 : Hid (PF w W2 w.heap.size gn w1.heap.size (w1.heap.size + 1) (w1.heap.size + 2) x y zs z0) := by
            have h := HQ1.out.below hb2
            have l1 := lt_of_block HQ1.out.e6
            have l2 := lt_of_block HQ1.out.rn.1
            have l3 := HQ1.out.big.size
            exact ⟨h.e5, h.e6, h.rn, q0, q2, ⟨q1, HZL.out⟩, h.big, Nat.le_refl _, by omega, by omega, by omega, by omega, by omega⟩
          clear hW2 q0 q1 q2 hb2 HQ1
          generalize w1.heap.size = n1 at *
          go_loopw [44] (fun s wr => ∃ k : Nat, k ≤ 256 ∧ s = .int .i64 k ∧ Hid (PF w wr w.heap.size gn n1 (n1 + 1) (n1 + 2) x y zs z0)) (fun s _ => 256 - (intOf s).toNat)
          case atStart => exact ⟨0, Nat.zero_le _, rfl, HF0⟩
          case round =>
            obtain ⟨k, hk, rfl, HF⟩ := hrel
            obtain ⟨f1, f2, f3, f4⟩ := HF.out.cells
            by_cases hlt : k < 256
            · have ht : decide ((k : Int) < 256) = true := by simp only [decide_eq_true_eq]; omega
              have hk0 : (0 : Int) ≤ (k : Int) := by omega
              have hk1 : (k : Int) < 256 := by omega
              have cr := HF.out.rx.cell hlt
              have fr := HF.out.rx.free k
              have HF2 := Lib.hid (HF.out.put (HF.out.rx.set k 0) (grownBy_set _ _ _ _))
              rw [HZS0.out] at HF2
              go_wp2_with fail
              go_roundw
              case rel => exact ⟨k + 1, by omega, by go_num, HF2⟩
              case measure => simp [intOf]; omega
            · have ht : decide ((k : Int) < 256) = false := by simp only [decide_eq_false_iff_not]; omega
              clear hk hlt
              obtain ⟨wb, HWB⟩ : ∃ wb, Hid (wb = wr) := ⟨_, rfl⟩
              obtain ⟨h, HH⟩ : ∃ h, Hid (hasC T x y = h) := ⟨_, rfl⟩
              obtain ⟨b, HB⟩ : ∃ h, Hid (hasC T x (y + 1) = h) := ⟨_, rfl⟩
              obtain ⟨r, HR⟩ : ∃ h, Hid (hasC T (x + 1) y = h) := ⟨_, rfl⟩
              have HR7 : Hid (r = true → x < 7) := fun e => by have h9 := HR.out; rw [e] at h9; unfold hasC at h9; simp only [Bool.and_eq_true, decide_eq_true_eq] at h9; omega
              rw [HH.out, HB.out, HR.out] at HS
              obtain ⟨st, HST⟩ : ∃ st : Nat → List Int, Hid (st = stepTo h b r x zs) := ⟨_, rfl⟩
              have HSIN : Hid (∀ k, st (k + 1) = inZ h b r x (el zs k) k (st k)) := by rw [HST.out]; exact fun k => rfl
              have HF3 : Hid (PF w wb w.heap.size gn n1 (n1 + 1) (n1 + 2) x y zs (st 0)) := by rw [HWB.out, HST.out, HST0.out]; exact HF.out
              rw [← HST.out] at HS
              clear HST
              have HP := Lib.hid (shl_p x hx7)
              obtain ⟨p, HPP⟩ : ∃ p : Nat, Hid ((2 : Nat) ^ x = p) := ⟨_, rfl⟩
              rw [HPP.out] at HP
              have HBT := Lib.hid (fun (k : Nat) (hk : k < 256) => bits_at k x hk hx7)
              rw [HPP.out] at HBT
              go_wp2_with fail
              rw [← HWB.out, HP.out]
              clear HF f1 f2 f3 f4 HP
              go_loopw [58] (fun s wr => ∃ k : Nat, k ≤ 256 ∧ s = .int .i64 k ∧ Hid (PF w wr w.heap.size gn n1 (n1 + 1) (n1 + 2) x y zs (st k))) (fun s _ => 256 - (intOf s).toNat)
              case atStart => exact ⟨0, Nat.zero_le _, rfl, HF3⟩
              case round =>
                obtain ⟨k, hk, rfl, HF4⟩ := hrel
                obtain ⟨f1, f2, f3, f4⟩ := HF4.out.cells
                by_cases hlt : k < 256
                · have ht : decide ((k : Int) < 256) = true := by simp only [decide_eq_true_eq]; omega
                  have hk0 : (0 : Int) ≤ (k : Int) := by omega
                  have hk1 : (k : Int) < 256 := by omega
                  have cr := HF4.out.rn.cell hlt
                  have HN := Lib.hid (HWO.out k)
                  have HIN := Lib.hid (HSIN.out k)
                  obtain ⟨b1, b2, b3, b4, b5⟩ := HBT.out k hlt
                  have HB2 := Lib.hid b2; have HB3 := Lib.hid b3; have HB5 := Lib.hid b5
                  clear b2 b3 b4 b5
                  generalize st k = nx at *
                  generalize el zs k = n at *
                  by_cases hn0 : n = 0
                  · have t0 : (n == 0) = true := by simp [hn0]
                    have HF5 : Hid (PF w wr w.heap.size gn n1 (n1 + 1) (n1 + 2) x y zs (st (k + 1))) := by rw [HIN.out, inZ, if_pos hn0]; exact HF4.out
                    clear hn0 b1
                    go_wp2_with fail
                    go_roundw
                    case rel => exact ⟨k + 1, by omega, by go_num, HF5⟩
                    case measure => simp [intOf]; omega
                  · have t0 : (n == 0) = false := by rw [beq_eq_false_iff_ne]; exact hn0
                    cases h
                    · cases hb : k.testBit x
                      · rw [hb] at b1
                        have b1' : (bits .and .i64 (k : Int) (p : Int) == 0) = true := b1
                        have HX : Hid (st (k + 1) = putZ nx k n) := by unfold Hid; rw [HIN.out, inZ, if_neg hn0]; simp [hb]
                        clear b1 hn0
                        go_wp2_with fail
                        refine (has_any T x y hT (by omega) (by omega) _).mono ?_
                        rintro e w5 ⟨rfl, hb5⟩
                        rw [HH.out]
                        have HF5 := Lib.hid (HF4.out.below hb5)
                        clear f1 f2 f3 f4 hb5
                        obtain ⟨f1, f2, f3, f4⟩ := HF5.out.cells
                        go_wp2_with fail
                        refine (put_any k hlt n HN.out _ _ _ _ _ HF5.out.puts).mono ?_
                        rintro e w6 ⟨rfl, hr6, hg6⟩
                        have HF6 := Lib.hid (HF5.out.put hr6 hg6)
                        clear f1 f2 f3 f4 hr6 hg6
                        obtain ⟨f1, f2, f3, f4⟩ := HF6.out.cells
                        have HF7 : Hid (PF w w6 w.heap.size gn n1 (n1 + 1) (n1 + 2) x y zs (st (k + 1))) := by rw [HX.out]; exact HF6.out
                        go_wp2_with fail
                        go_roundw
                        case rel => exact ⟨k + 1, by omega, by go_num, HF7⟩
                        case measure => simp [intOf]; omega
                      · rw [hb] at b1
                        have b1' : (bits .and .i64 (k : Int) (p : Int) == 0) = false := b1
                        have HX : Hid (st (k + 1) = nx) := by unfold Hid; rw [HIN.out, inZ, if_neg hn0]; simp [hb]
                        clear b1 hn0
                        go_wp2_with fail
                        refine (has_any T x y hT (by omega) (by omega) _).mono ?_
                        rintro e w5 ⟨rfl, hb5⟩
                        rw [HH.out]
                        have HF5 := Lib.hid (HF4.out.below hb5)
                        clear f1 f2 f3 f4 hb5
                        obtain ⟨f1, f2, f3, f4⟩ := HF5.out.cells
                        go_wp2_with fail
                        refine (has_any T x y hT (by omega) (by omega) _).mono ?_
                        rintro e w6 ⟨rfl, hb6⟩
                        rw [HH.out]
                        have HF6 := Lib.hid (HF5.out.below hb6)
                        clear f1 f2 f3 f4 hb6
                        obtain ⟨f1, f2, f3, f4⟩ := HF6.out.cells
                        go_wp2_with fail
                        refine (has_any T x y hT (by omega) (by omega) _).mono ?_
                        rintro e w7 ⟨rfl, hb7⟩
                        rw [HH.out]
                        have HF7 := Lib.hid (HF6.out.below hb7)
                        clear f1 f2 f3 f4 hb7
                        obtain ⟨f1, f2, f3, f4⟩ := HF7.out.cells
                        have HF8 : Hid (PF w w7 w.heap.size gn n1 (n1 + 1) (n1 + 2) x y zs (st (k + 1))) := by rw [HX.out]; exact HF7.out
                        go_wp2_with fail
                        go_roundw
                        case rel => exact ⟨k + 1, by omega, by go_num, HF8⟩
                        case measure => simp [intOf]; omega
                    · cases hb : k.testBit x
                      · rw [hb] at b1
                        have b1' : (bits .and .i64 (k : Int) (p : Int) == 0) = true := b1
                        have b2' : (bits .and .i64 (k : Int) (p : Int) != 0) = false := by unfold bne; rw [b1']; rfl
                        clear b1
                        go_wp2_with fail
                        refine (has_any T x y hT (by omega) (by omega) _).mono ?_
                        rintro e w5 ⟨rfl, hb5⟩
                        rw [HH.out]
                        have HF5 := Lib.hid (HF4.out.below hb5)
                        clear f1 f2 f3 f4 hb5
                        obtain ⟨f1, f2, f3, f4⟩ := HF5.out.cells
                        go_wp2_with fail
                        refine (has_any T x y hT (by omega) (by omega) _).mono ?_
                        rintro e w6 ⟨rfl, hb6⟩
                        rw [HH.out]
                        have HF6 := Lib.hid (HF5.out.below hb6)
                        clear f1 f2 f3 f4 hb6
                        obtain ⟨f1, f2, f3, f4⟩ := HF6.out.cells
                        go_wp2_with fail
                        refine (has_any T x y hT (by omega) (by omega) _).mono ?_
                        rintro e w7 ⟨rfl, hb7⟩
                        rw [HH.out]
                        have HF7 := Lib.hid (HF6.out.below hb7)
                        clear f1 f2 f3 f4 hb7
                        obtain ⟨f1, f2, f3, f4⟩ := HF7.out.cells
                        have HX : Hid (st (k + 1) = if r && !k.testBit (x + 1) then putZ (if b then putZ nx (k ||| p) n else nx) (k ||| 2 ^ (x + 1)) n else if b then putZ nx (k ||| p) n else nx) := by unfold Hid; rw [HIN.out, inZ, if_neg hn0]; simp only [hb, if_true, HPP.out]; rfl
                        have HY1 : Hid ((y : Int) + 1 = ((y + 1 : Nat) : Int)) := by unfold Hid; omega
                        have HX1 : Hid ((x : Int) + 1 = ((x + 1 : Nat) : Int)) := by unfold Hid; omega
                        clear hn0
                        go_wp2_with fail
                        rw [HY1.out]
                        refine (has_any T x (y + 1) hT (by omega) (by omega) _).mono ?_
                        rintro e w8 ⟨rfl, hb8⟩
                        rw [HB.out]
                        have HF8 := Lib.hid (HF7.out.below hb8)
                        clear f1 f2 f3 f4 hb8
                        obtain ⟨f1, f2, f3, f4⟩ := HF8.out.cells
                        have HTAIL : True := trivial
                        cases b
                        · skip
                          have HX2 : Hid (st (k + 1) = if r && !k.testBit (x + 1) then putZ nx (k ||| 2 ^ (x + 1)) n else nx) := HX.out
                          clear HX
                          go_wp2_with fail
                          rw [HX1.out]
                          refine (has_any T (x + 1) y hT (by omega) (by omega) _).mono ?_
                          rintro e w9 ⟨rfl, hb9⟩
                          rw [HR.out]
                          have HF9 := Lib.hid (HF8.out.below hb9)
                          clear f1 f2 f3 f4 hb9
                          obtain ⟨f1, f2, f3, f4⟩ := HF9.out.cells
                          cases r
                          · have HE : Hid (PF w w9 w.heap.size gn n1 (n1 + 1) (n1 + 2) x y zs (st (k + 1))) := by rw [HX2.out]; exact HF9.out
                            go_wp2_with fail
                            go_roundw
                            case rel => exact ⟨k + 1, by omega, by go_num, HE⟩
                            case measure => simp [intOf]; omega
                          · have hx6 := HR7.out rfl
                            have hp1 : 1 ≤ p := by rw [← HPP.out]; exact Nat.one_le_two_pow
                            have hp2 : p ≤ 64 := by rw [← HPP.out]; exact Nat.pow_le_pow_right (n := 2) (by omega) (show x ≤ 6 by omega)
                            obtain ⟨q1, _, q3, _, q5⟩ := bits_at k (x + 1) hlt (by omega)
                            rw [show ((2 ^ (x + 1) : Nat) : Int) = (p : Int) * 2 by rw [← HPP.out, Nat.pow_succ]; simp] at q1 q3
                            have HQ3 := Lib.hid q3
                            have HQ5 := Lib.hid q5
                            clear q3 q5
                            cases hb2 : k.testBit (x + 1)
                            · rw [hb2] at q1 HX2
                              have q1' : (bits .and .i64 (k : Int) ((p : Int) * 2) == 0) = true := q1
                              clear q1
                              go_wp2_with fail
                              refine (count2_any _ _ _ _ _).mono ?_
                              rintro e w10 ⟨rfl, hb10⟩
                              rw [if_neg (show ¬ (x : Int) < 0 by omega)]
                              have HF10 := Lib.hid (HF9.out.below hb10)
                              clear f1 f2 f3 f4 hb10
                              obtain ⟨f1, f2, f3, f4⟩ := HF10.out.cells
                              go_wp2_with fail
                              rw [HQ3.out]
                              refine (put_any (k ||| 2 ^ (x + 1)) HQ5.out n HN.out _ _ _ _ _ HF10.out.puts).mono ?_
                              rintro e w11 ⟨rfl, hr11, hg11⟩
                              have HF11 := Lib.hid (HF10.out.put hr11 hg11)
                              clear f1 f2 f3 f4 hr11 hg11
                              obtain ⟨f1, f2, f3, f4⟩ := HF11.out.cells
                              have HE : Hid (PF w w11 w.heap.size gn n1 (n1 + 1) (n1 + 2) x y zs (st (k + 1))) := by rw [HX2.out]; exact HF11.out
                              go_wp2_with fail
                              go_roundw
                              case rel => exact ⟨k + 1, by omega, by go_num, HE⟩
                              case measure => simp [intOf]; omega
                            · rw [hb2] at q1 HX2
                              have q1' : (bits .and .i64 (k : Int) ((p : Int) * 2) == 0) = false := q1
                              clear q1
                              have HE : Hid (PF w w9 w.heap.size gn n1 (n1 + 1) (n1 + 2) x y zs (st (k + 1))) := by rw [HX2.out]; exact HF9.out
                              go_wp2_with fail
                              go_roundw
                              case rel => exact ⟨k + 1, by omega, by go_num, HE⟩
                              case measure => simp [intOf]; omega
                        · skip
                          go_wp2_with fail
                          refine (count2_any _ _ _ _ _).mono ?_
                          rintro e w9 ⟨rfl, hb9⟩
                          rw [if_neg (show ¬ (x : Int) < 0 by omega)]
                          have HF9 := Lib.hid (HF8.out.below hb9)
                          clear f1 f2 f3 f4 hb9
                          obtain ⟨f1, f2, f3, f4⟩ := HF9.out.cells
                          go_wp2_with fail
                          rw [HB3.out]
                          refine (put_any (k ||| p) HB5.out n HN.out _ _ _ _ _ HF9.out.puts).mono ?_
                          rintro e w10 ⟨rfl, hr10, hg10⟩
                          have HF10 := Lib.hid (HF9.out.put hr10 hg10)
                          clear f1 f2 f3 f4 hr10 hg10
                          obtain ⟨f1, f2, f3, f4⟩ := HF10.out.cells
                          have HX2 : Hid (st (k + 1) = if r && !k.testBit (x + 1) then putZ (putZ nx (k ||| p) n) (k ||| 2 ^ (x + 1)) n else (putZ nx (k ||| p) n)) := HX.out
                          clear HX
                          go_wp2_with fail
                          rw [HX1.out]
                          refine (has_any T (x + 1) y hT (by omega) (by omega) _).mono ?_
                          rintro e w11 ⟨rfl, hb11⟩
                          rw [HR.out]
                          have HF11 := Lib.hid (HF10.out.below hb11)
                          clear f1 f2 f3 f4 hb11
                          obtain ⟨f1, f2, f3, f4⟩ := HF11.out.cells
                          cases r
                          · have HE : Hid (PF w w11 w.heap.size gn n1 (n1 + 1) (n1 + 2) x y zs (st (k + 1))) := by rw [HX2.out]; exact HF11.out
                            go_wp2_with fail
                            go_roundw
                            case rel => exact ⟨k + 1, by omega, by go_num, HE⟩
                            case measure => simp [intOf]; omega
                          · have hx6 := HR7.out rfl
                            have hp1 : 1 ≤ p := by rw [← HPP.out]; exact Nat.one_le_two_pow
                            have hp2 : p ≤ 64 := by rw [← HPP.out]; exact Nat.pow_le_pow_right (n := 2) (by omega) (show x ≤ 6 by omega)
                            obtain ⟨q1, _, q3, _, q5⟩ := bits_at k (x + 1) hlt (by omega)
                            rw [show ((2 ^ (x + 1) : Nat) : Int) = (p : Int) * 2 by rw [← HPP.out, Nat.pow_succ]; simp] at q1 q3
                            have HQ3 := Lib.hid q3
                            have HQ5 := Lib.hid q5
                            clear q3 q5
                            cases hb2 : k.testBit (x + 1)
                            · rw [hb2] at q1 HX2
                              have q1' : (bits .and .i64 (k : Int) ((p : Int) * 2) == 0) = true := q1
                              clear q1
                              go_wp2_with fail
                              refine (count2_any _ _ _ _ _).mono ?_
                              rintro e w12 ⟨rfl, hb12⟩
                              rw [if_neg (show ¬ (x : Int) < 0 by omega)]
                              have HF12 := Lib.hid (HF11.out.below hb12)
                              clear f1 f2 f3 f4 hb12
                              obtain ⟨f1, f2, f3, f4⟩ := HF12.out.cells
                              go_wp2_with fail
                              rw [HQ3.out]
                              refine (put_any (k ||| 2 ^ (x + 1)) HQ5.out n HN.out _ _ _ _ _ HF12.out.puts).mono ?_
                              rintro e w13 ⟨rfl, hr13, hg13⟩
                              have HF13 := Lib.hid (HF12.out.put hr13 hg13)
                              clear f1 f2 f3 f4 hr13 hg13
                              obtain ⟨f1, f2, f3, f4⟩ := HF13.out.cells
                              have HE : Hid (PF w w13 w.heap.size gn n1 (n1 + 1) (n1 + 2) x y zs (st (k + 1))) := by rw [HX2.out]; exact HF13.out
                              go_wp2_with fail
                              go_roundw
                              case rel => exact ⟨k + 1, by omega, by go_num, HE⟩
                              case measure => simp [intOf]; omega
                            · rw [hb2] at q1 HX2
                              have q1' : (bits .and .i64 (k : Int) ((p : Int) * 2) == 0) = false := q1
                              clear q1
                              have HE : Hid (PF w w11 w.heap.size gn n1 (n1 + 1) (n1 + 2) x y zs (st (k + 1))) := by rw [HX2.out]; exact HF11.out
                              go_wp2_with fail
                              go_roundw
                              case rel => exact ⟨k + 1, by omega, by go_num, HE⟩
                              case measure => simp [intOf]; omega
                      · rw [hb] at b1
                        have b1' : (bits .and .i64 (k : Int) (p : Int) == 0) = false := b1
                        have b2' : (bits .and .i64 (k : Int) (p : Int) != 0) = true := by unfold bne; rw [b1']; rfl
                        have HAN := Lib.hid (HB2.out hb)
                        have HX : Hid (st (k + 1) = putZ nx (k - p) n) := by unfold Hid; rw [HIN.out, inZ, if_neg hn0]; simp [hb, HPP.out]
                        clear b1 hn0
                        go_wp2_with fail
                        refine (has_any T x y hT (by omega) (by omega) _).mono ?_
                        rintro e w5 ⟨rfl, hb5⟩
                        rw [HH.out]
                        have HF5 := Lib.hid (HF4.out.below hb5)
                        clear f1 f2 f3 f4 hb5
                        obtain ⟨f1, f2, f3, f4⟩ := HF5.out.cells
                        go_wp2_with fail
                        refine (has_any T x y hT (by omega) (by omega) _).mono ?_
                        rintro e w6 ⟨rfl, hb6⟩
                        rw [HH.out]
                        have HF6 := Lib.hid (HF5.out.below hb6)
                        clear f1 f2 f3 f4 hb6
                        obtain ⟨f1, f2, f3, f4⟩ := HF6.out.cells
                        go_wp2_with fail
                        rw [HAN.out]
                        refine (put_any (k - p) (by omega) n HN.out _ _ _ _ _ HF6.out.puts).mono ?_
                        rintro e w7 ⟨rfl, hr7, hg7⟩
                        have HF7 := Lib.hid (HF6.out.put hr7 hg7)
                        have HF8 : Hid (PF w w7 w.heap.size gn n1 (n1 + 1) (n1 + 2) x y zs (st (k + 1))) := by rw [HX.out]; exact HF7.out
                        clear f1 f2 f3 f4 hr7 hg7
                        obtain ⟨f1, f2, f3, f4⟩ := HF7.out.cells
                        go_wp2_with fail
                        go_roundw
                        case rel => exact ⟨k + 1, by omega, by go_num, HF8⟩
                        case measure => simp [intOf]; omega
                · have ht : decide ((k : Int) < 256) = false := by simp only [decide_eq_false_iff_not]; omega
                  obtain rfl : k = 256 := by omega
                  rw [← HS.out] at HF4
                  have HFN : Hid (PB w wr w.heap.size (n1 + 1) (pf (i + 1))) := by
                    have h := HF4.out
                    rw [HZS2.out]
                    exact ⟨h.e5, h.e6, h.rx, h.big, h.l5, by have := h.lx; have := h.n5; have := h.l5; omega⟩
                  go_wp2_with fail
                  go_roundw
                  case rel => exact ⟨i + 1, _, by omega, by go_num, rfl, HFN⟩
                  case measure => simp [intOf]; omega
        · have hti : decide ((i : Int) < 64) = false := by simp only [decide_eq_false_iff_not]; omega
          obtain rfl : i = 64 := by omega
          have cq := HQ.out.rn.cell (k := 0) (by omega)
          have HF : Hid (el (pf 64) 0 = res) := (HFZ.out _ rfl).symm
          go_wp2_with fail
          go_ret
          exact ⟨ret_int HF.out, HQ.out.big⟩
end Go.Proofs.Ytehnbalbpfmijaa
