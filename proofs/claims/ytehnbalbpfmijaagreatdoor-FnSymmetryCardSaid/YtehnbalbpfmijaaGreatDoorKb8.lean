/- What the claim's walk rests on: parts CopyIn, SortI, Mov. -/
import Derived.Test.YtehnbalbpfmijaaGreatDoorKb1
import Derived.Test.YtehnbalbpfmijaaGreatDoorKb3
import Derived.Test.YtehnbalbpfmijaaGreatDoorKb6
import Derived.Test.YtehnbalbpfmijaaGreatDoorKb5
import Derived.Test.YtehnbalbpfmijaaGreatDoorKb7
import Derived.Laws.CopyOwn
import Derived.Deep.RegionHeld3
import Derived.Deep.RegionLaw
namespace Go.Proofs.YtehnbalbpfmijaaGreatDoor
open Go.RowKit
set_option linter.unusedVariables false

theorem run_copy_rowF {P : Program} (w : World) (dT sT ty elem : TypeId) (s g o dLen dCap : Nat) (a : Addr) (sLen sCap : Nat) (cur : Array Value) (t : TypeId) (cs : List Value)
    (hu : P.underlying dT = some (.slice elem)) (hs : (P.info? elem).map (·.size) = some s)
    (hg : w.heap[g]? = some (.cells cur t (0, 0))) (hn : cs.length = Nat.min sLen dLen * s)
    (hsrc : ∀ j v, cs[j]? = some v → w.cell? (a.add j) = some v) (hfit : o + cs.length ≤ cur.size) (h1 : ∀ v ∈ cs, v.oneCell' = true) :
    (Builtin.copy_ #[dT, sT] ty #[.slice (some ⟨g, o, none⟩) dLen dCap, .slice (some a) sLen sCap]).run P w =
      .ok (goInt (Nat.min sLen dLen)) (w.setRow g (cur.toList.take o ++ cs ++ cur.toList.drop (o + cs.length)).toArray) := by
  have hl := run_loadCells_list (P := P) w a cs hsrc
  have hst := run_storeCells_at P g o t cs 0 cur w hg (by simpa using hfit) h1
  cases hq : P.info? elem with
  | none => simp [hq] at hs
  | some i =>
    have hi : i.size = s := by simpa [hq] using hs
    simp [Builtin.copy_, run_underlying hu, Builtin.lenOf, Builtin.firstCells, sizeOf, typeInfo, hq, hi, ← hn, hl, hst]

section
variable {α : Type} {E : El α} {P : Program}
theorem El.Ok.size (hE : E.Ok P) : (P.info? E.e).map (·.size) = some E.s := by
  have := hE.info
  cases h : P.info? E.e with
  | none => simp [h] at this
  | some i => simp [h] at this; simp [this]
theorem flat_take (hE : ∀ x, (E.f x).length = E.s) (xs : List α) (k : Nat) (hk : k ≤ xs.length) : (xs.flatMap E.f).take (k * E.s) = (xs.take k).flatMap E.f := by
  have h : xs.flatMap E.f = (xs.take k).flatMap E.f ++ (xs.drop k).flatMap E.f := by rw [← List.flatMap_append, List.take_append_drop]
  have hl : ((xs.take k).flatMap E.f).length = k * E.s := by rw [flat_length hE, List.length_take, Nat.min_eq_left hk]
  rw [h, ← hl, List.take_left']
  rfl
theorem flat_drop (hE : ∀ x, (E.f x).length = E.s) (xs : List α) (k : Nat) (hk : k ≤ xs.length) : (xs.flatMap E.f).drop (k * E.s) = (xs.drop k).flatMap E.f := by
  have h : xs.flatMap E.f = (xs.take k).flatMap E.f ++ (xs.drop k).flatMap E.f := by rw [← List.flatMap_append, List.take_append_drop]
  have hl : ((xs.take k).flatMap E.f).length = k * E.s := by rw [flat_length hE, List.length_take, Nat.min_eq_left hk]
  rw [h, ← hl, List.drop_left']
  rfl
theorem OwnF.shift (hE : E.Ok P) {w : World} {lo g cap k dCap sCap : Nat} {xs : List α} {z : α} {dT sT ty : TypeId} (hu : P.underlying dT = some (.slice E.e))
    (h : OwnF E w lo (.slice (some ⟨g, 0, none⟩) (xs.length + 1) cap) (xs ++ [z])) (hk : k < xs.length) :
    ∃ w', (Builtin.copy_ #[dT, sT] ty #[.slice (some ⟨g, (k + 1) * E.s, none⟩) (xs.length - k) dCap, .slice (some ⟨g, k * E.s, none⟩) (xs.length + 1 - k) sCap]).run P w = .ok (goInt ((xs.length - k : Nat) : Int)) w' ∧
      OwnF E w' lo (.slice (some ⟨g, 0, none⟩) (xs.length + 1) cap) (xs.take (k + 1) ++ xs.drop k) ∧ w.grownBy w' (some g) := by
  have hrow : w.ownsRow lo E.e E.s (.slice (some ⟨g, 0, none⟩) (xs.length + 1) cap) (xs.length + 1) ((xs ++ [z]).flatMap E.f) := by
    have := h
    unfold OwnF at this
    rwa [List.length_append, List.length_singleton] at this
  rcases h.2 with ⟨_, h0⟩ | ⟨g', cap', cur, hv, hb, hgg, h1, h2, h3, h4⟩
  · simp at h0
  · obtain ⟨rfl, rfl⟩ : g = g' ∧ cap = cap' := by simp at hv; exact hv
    have hl := hE.len
    have hcl : ((xs.drop k).flatMap E.f).length = (xs.length - k) * E.s := by rw [flat_length hl, List.length_drop]
    have hmin : Nat.min (xs.length + 1 - k) (xs.length - k) = xs.length - k := Nat.min_eq_right (by omega)
    simp only [List.length_append, List.length_singleton] at h1 h4
    have hfit : (k + 1) * E.s + (xs.length - k) * E.s = (xs.length + 1) * E.s := by rw [← Nat.add_mul]; congr 1; omega
    have hcs : (xs.length + 1) * E.s ≤ cur.size := by rw [h3]; exact Nat.mul_le_mul_right _ h1
    have hrun := run_copy_rowF (P := P) w dT sT ty E.e E.s g ((k + 1) * E.s) (xs.length - k) dCap ⟨g, k * E.s, none⟩ (xs.length + 1 - k) sCap cur E.e ((xs.drop k).flatMap E.f) hu hE.size hgg (by rw [hmin, hcl])
      (fun j v hj => by
        have hj' : j < (xs.length - k) * E.s := by rw [← hcl]; exact (List.getElem?_eq_some_iff.1 hj).1
        have hle : k * E.s + (xs.length - k) * E.s = xs.length * E.s := by rw [← Nat.add_mul]; congr 1; omega
        have hlt : k * E.s + j < (xs.length + 1) * E.s := by rw [Nat.add_mul]; omega
        have hc := World.ownsRow.cellAt hrow (k * E.s + j) hlt
        rw [show (⟨g, k * E.s, none⟩ : Addr).add j = ⟨g, k * E.s + j, none⟩ by simp [Addr.add], hc, List.flatMap_append, List.getElem?_append_left (by rw [flat_length hl]; omega), ← List.getElem?_drop, flat_drop hl _ _ (by omega)]
        exact hj)
      (by rw [hcl, hfit]; exact hcs)
      (fun v hv => by obtain ⟨x, _, hx⟩ := List.mem_flatMap.1 hv; exact hE.one x v hx)
    rw [hmin] at hrun
    refine ⟨_, hrun, ⟨?_, .inr ⟨g, cap, _, by simp; omega, hb, setRow_heap w g _ _ _ _ hgg, by simp; omega, h2, ?_, ?_⟩⟩, ?_⟩
    · rw [flat_length hl]
    · rw [hcl, hfit, ← h3]
      simp only [List.size_toArray, List.length_append, List.length_take, List.length_drop, hcl, Array.length_toList]
      rw [Nat.min_eq_left (by omega)]
      omega
    · have ht : cur.toList.take ((k + 1) * E.s) = (xs.take (k + 1)).flatMap E.f := by
        have := congrArg (List.take ((k + 1) * E.s)) h4
        rw [List.take_take, Nat.min_eq_left (Nat.mul_le_mul_right _ (by omega)), flat_take hl _ _ (by simp; omega), List.take_append_of_le_length (by omega)] at this
        exact this
      rw [ht, ← List.flatMap_append]
      have hlen : (xs.take (k + 1) ++ xs.drop k).length = xs.length + 1 := by simp; omega
      rw [hlen]
      simp only []
      rw [List.take_append_of_le_length (by rw [flat_length hl, hlen]; exact Nat.le_refl _), List.take_of_length_le (by rw [flat_length hl, hlen]; exact Nat.le_refl _)]
    · exact ⟨rfl, rfl, rfl, by simp [World.setRow], fun j hj hne => setRow_other w g j _ (by intro e; exact hne (by rw [e]))⟩
end

theorem wpList_copyIn {α : Type} {E : El α} {P : Program} (hE : E.Ok P) {w : World} {ops : Array Oper} {rest : List Oper} {o : Oper} {a : Act} {Q : Exit → Act → World → Prop} (hgd : o.guard = none) (d s : Operand)
    (ho : o.op = .call { callee := .builtin .copy, args := #[d, s], argTypes := #[E.t, E.t] }) (g cap k m dCap sCap lo : Nat) (xs : List α) (z : α) (hm : xs.length - k = m)
    (hd : a.eval d = .slice (some ⟨g, (k + 1) * E.s, none⟩) m dCap) (hs : a.eval s = .slice (some ⟨g, k * E.s, none⟩) (xs.length + 1 - k) sCap)
    (hown : OwnF E w lo (.slice (some ⟨g, 0, none⟩) (xs.length + 1) cap) (xs ++ [z])) (hk : k < xs.length)
    (h : ∀ w', Hid (OwnF E w' lo (.slice (some ⟨g, 0, none⟩) (xs.length + 1) cap) (xs.take (k + 1) ++ xs.drop k)) → Hid (w.grownBy w' (some g)) → wpList P ops Q rest (a.put o.dst (goInt (m : Int))) w') :
    wpList P ops Q (o :: rest) a w := by
  refine wpList_plain hgd fun K hK => ?_
  obtain ⟨w', hrun, h1, h2⟩ := OwnF.shift (dT := E.t) (sT := E.t) (ty := o.type) (dCap := dCap) (sCap := sCap) hE hE.und hown hk
  rw [hm] at hrun
  unfold Oper.wp
  simp [execOp, ho, resolve, invoke, builtin, hd, hs, hrun, Result.andThen]
  exact hK _ _ (h _ h1 h2)
theorem step_copyIn {α : Type} {E : El α} {P : Program} (hE : E.Ok P) {ops : Array Oper} {o : Oper} {a : Act} {w : World} {K : Act → World → Prop} {Q : Exit → Act → World → Prop} {X : Prop} (hgd : o.guard = none) (d s : Operand)
    (ho : o.op = .call { callee := .builtin .copy, args := #[d, s], argTypes := #[E.t, E.t] }) (g cap k m dCap sCap lo : Nat) (xs : List α) (z : α) (hm : xs.length - k = m)
    (hd : a.eval d = .slice (some ⟨g, (k + 1) * E.s, none⟩) m dCap) (hs : a.eval s = .slice (some ⟨g, k * E.s, none⟩) (xs.length + 1 - k) sCap)
    (hown : OwnF E w lo (.slice (some ⟨g, 0, none⟩) (xs.length + 1) cap) (xs ++ [z])) (hk : k < xs.length)
    (h : ∀ w', Hid (OwnF E w' lo (.slice (some ⟨g, 0, none⟩) (xs.length + 1) cap) (xs.take (k + 1) ++ xs.drop k)) → Hid (w.grownBy w' (some g)) → K (a.put o.dst (goInt (m : Int))) w') :
    if Region.wanted o (yielded ops a.tmps) = true then Oper.wp P o a w K Q else X := by
  have hw : Region.wanted o (yielded ops a.tmps) = true := by simp [Region.wanted, hgd]
  rw [if_pos hw]
  obtain ⟨w', hrun, h1, h2⟩ := OwnF.shift (dT := E.t) (sT := E.t) (ty := o.type) (dCap := dCap) (sCap := sCap) hE hE.und hown hk
  rw [hm] at hrun
  unfold Oper.wp
  simp [execOp, ho, resolve, invoke, builtin, hd, hs, hrun, Result.andThen]
  exact h _ h1 h2
theorem run_copy_noneF {P : Program} (w : World) (dT sT ty elem : TypeId) (s : Nat) (d a : Option Addr) (dLen dCap sLen sCap : Nat) (hu : P.underlying dT = some (.slice elem)) (hs : (P.info? elem).map (·.size) = some s) (hn : Nat.min sLen dLen = 0) :
    (Builtin.copy_ #[dT, sT] ty #[.slice d dLen dCap, .slice a sLen sCap]).run P w = .ok (goInt 0) w := by
  cases hq : P.info? elem with
  | none => simp [hq] at hs
  | some i =>
    have hmin : min sLen dLen = 0 := hn
    cases d <;> cases a <;> simp [Builtin.copy_, run_underlying hu, Builtin.lenOf, Builtin.firstCells, sizeOf, typeInfo, hq, hmin, storeCells, loadCells, loadCellsFrom]
theorem step_copyNone {α : Type} {E : El α} {P : Program} (hE : E.Ok P) {ops : Array Oper} {o : Oper} {a : Act} {w : World} {K : Act → World → Prop} {Q : Exit → Act → World → Prop} {X : Prop} (hgd : o.guard = none) (d s : Operand)
    (ho : o.op = .call { callee := .builtin .copy, args := #[d, s], argTypes := #[E.t, E.t] }) {dp sp : Option Addr} {dLen dCap sLen sCap : Nat}
    (hd : a.eval d = .slice dp dLen dCap) (hs : a.eval s = .slice sp sLen sCap) (hn : Nat.min sLen dLen = 0) (h : K (a.put o.dst (goInt 0)) w) :
    if Region.wanted o (yielded ops a.tmps) = true then Oper.wp P o a w K Q else X := by
  have hw : Region.wanted o (yielded ops a.tmps) = true := by simp [Region.wanted, hgd]
  rw [if_pos hw]
  have hrun := run_copy_noneF (P := P) w E.t E.t o.type E.e E.s dp sp dLen dCap sLen sCap hE.und hE.size hn
  unfold Oper.wp
  simp [execOp, ho, resolve, invoke, builtin, hd, hs, hrun, Result.andThen]
  exact h
end Go.Proofs.YtehnbalbpfmijaaGreatDoor

namespace Go.Proofs.YtehnbalbpfmijaaGreatDoor
open Go.RowKit
set_option linter.unusedVariables false

theorem tri_cells {w : World} {a : Nat} {x y : Int} {d : Bool} {t : TypeId} (h : w.heap[a]? = some (triO x y d t)) : w.cell? ⟨a, 0, none⟩ = some (.int .i64 x) ∧ w.cell? ⟨a, 1, none⟩ = some (.int .i64 y) ∧ w.cell? ⟨a, 2, none⟩ = some (.bool d) :=
  ⟨by rw [blk_cell h]; rfl, by rw [blk_cell h]; rfl, by rw [blk_cell h]; rfl⟩
theorem blk_grew {W6 w7 : World} {v v' : Value} {a : Nat} {o : Obj} (h : W6.heap[a]? = some o) (hG : Grew W6 w7 v v') (hob : ∀ g, v.ownBlock = some g → g < a) : w7.heap[a]? = some o ∧ ∀ g, v'.ownBlock = some g → a ≠ g := by
  obtain ⟨g1, g, g2, g3, g4⟩ := hG
  have hl := lt_of_block h
  refine ⟨(g1.block a hl fun e => by have := hob a e.symm; omega).trans h, fun k hk => ?_⟩
  rw [g2] at hk
  obtain rfl := Option.some.inj hk
  rcases g3 with g3 | g3
  · have := hob _ g3; omega
  · omega
theorem set_shift {α : Type} (ys : List α) (j : Nat) (z : α) (h : j < ys.length) : (ys.take (j + 1) ++ ys.drop j).set j z = ys.take j ++ z :: ys.drop j := by
  have e : ys.take (j + 1) = ys.take j ++ [ys[j]] := by rw [List.take_succ_eq_append_getElem h]
  have hl : (ys.take j).length = j := by simp; omega
  rw [e, List.append_assoc, List.set_append_right _ _ (by omega), hl, Nat.sub_self]
  rfl
set_option maxRecDepth 100000 in
set_option maxHeartbeats 4000000 in
theorem SortDominoes_any (v : Value) (ls : List Lk) (B : Nat) (w : World) (h : RdF elDomino w B v ls) (hB : B ≤ w.heap.size) :
    Calls Tryz.prog 37 #[v] w fun e w' => ∃ u, e = .returned u ∧ OwnF elDomino w' w.heap.size u (sortI ls ls.length) ∧ Below w.heap.size w w' := by
  obtain ⟨A, c, rfl, g1, g2, G3⟩ := RdT.of (E := elDomino) rfl (fun _ => rfl) h
  unfold maxLen at g2
  clear h
  have HA0 : Hid (Acc elDomino w w.heap.size (w.alloc (.cells #[] 51)) (.slice (some ⟨w.heap.size, 0, none⟩) 0 0) []) := Acc.start w
  have HSS := Lib.hid (sort_same ls)
  have HSI : Hid (∀ k, sortI ls (k + 1) = if domL (dAt ls k) then insI (dAt ls k) (sortI ls k) else sortI ls k) := fun k => rfl
  have HS0 : Hid (sortI ls 0 = []) := rfl
  obtain ⟨st, HST⟩ : ∃ st, Hid (st = sortI ls) := ⟨_, rfl⟩
  rw [← HST.out] at HSI HS0 ⊢
  have HSR : Hid (∀ k, Sorted (st k)) := fun k => by rw [HST.out]; exact (HSS.out k).2
  clear HST HSS
  go_enter Tryz.func37, Tryz.ntmps37
  go_wp2_with fail
  go_loopw [3, 10] (fun o i wr => ∃ (k : Nat) (u : Value), k ≤ ls.length ∧ i = .int .i64 k ∧ u = o ∧ Hid (Acc elDomino w w.heap.size wr u (st k))) (fun _ i _ => ls.length - (intOf i).toNat)
  case atStart => exact ⟨0, _, Nat.zero_le _, rfl, rfl, by rw [HS0.out]; exact HA0⟩
  case round =>
    obtain ⟨k, u, hk, rfl, rfl, HA⟩ := hrel
    obtain ⟨A1, ca, hv, q1, q2, _⟩ := HA.out.1.rd okDomino
    subst hv
    unfold maxLen at q2
    by_cases hlt : k < ls.length
    · have ht : decide ((k : Int) < (ls.length : Int)) = true := by simp only [decide_eq_true_eq]; omega
      obtain ⟨ad, rfl, hbl, hx, hy, hz⟩ := G3.out k hlt
      have hbl2 : (ad.add (k * 3)).block < w.heap.size := by rw [addBlock]; omega
      have hbw := HA.out.2.1
      have hx' := (hbw.cell (p := ad.add (k * 3)) hbl2).trans hx
      have hy' := (hbw.cell (p := ⟨(ad.add (k * 3)).block, (ad.add (k * 3)).off + 1, none⟩) hbl2).trans hy
      have hz' := (hbw.cell (p := ⟨(ad.add (k * 3)).block, (ad.add (k * 3)).off + 2, none⟩) hbl2).trans hz
      have HNX := Lib.hid (HSI.out k)
      have HYS := Lib.hid (HSR.out k)
      have hshort := (HSR.out k).short
      have HDA : Hid (dAt ls k = (lx ls k, ly ls k, ld ls k)) := rfl
      rw [HDA.out] at HNX
      have hk0 : (0 : Int) ≤ (k : Int) := by omega
      have hk1 : (k : Int) < (ls.length : Int) := by omega
      generalize lx ls k = x at *
      generalize ly ls k = y at *
      generalize ld ls k = d at *
      obtain ⟨ys, HYQ⟩ : ∃ ys, Hid (st k = ys) := ⟨_, rfl⟩
      rw [HYQ.out] at HA HNX HYS hshort q1 ⊢
      clear hx hy hz hbw HDA HYQ
      go_wp2_with fail
      obtain ⟨V, hV, k1, hbV⟩ := one_alloc wr (triO x y d 51)
      rw [← hV]
      obtain ⟨vn, hvn⟩ : ∃ vn, wr.heap.size = vn := ⟨_, rfl⟩
      rw [hvn] at k1 ⊢
      have HA2 := Lib.hid (HA.out.below hbV)
      have HK0 := Lib.hid k1
      have HOB : Hid (∀ g, (Value.slice A1 ys.length ca).ownBlock = some g → g < vn) := fun g hg => by rw [← hvn]; exact (HA.out.1.lt g hg).2
      clear hV k1 hbV hx' hy' hz' hvn
      refine (DominoOk_any x y d _).mono ?_
      rintro e w1 ⟨rfl, hb1⟩
      have HK1 := Lib.hid (blk_below HK0.out hb1)
      have HA3 := Lib.hid (HA2.out.below hb1)
      clear hb1
      obtain ⟨f1, f2, f3⟩ := tri_cells HK1.out
      cases hd : domB x y d
      · have HE : Hid (st (k + 1) = ys) := by unfold Hid; rw [HNX.out, if_neg (by simp [domL, hd])]
        clear HNX hd
        go_wp2_with fail
        go_roundw
        case rel => exact ⟨k + 1, _, by omega, by go_num, rfl, by rw [HE.out]; exact HA3⟩
        case measure => simp [intOf]; omega
      · have HE : Hid (st (k + 1) = insI (x, y, d) ys) := by unfold Hid; rw [HNX.out, if_pos (by simp [domL, hd])]
        have HD := Lib.hid hd
        clear HNX
        have hC2 := Lib.hid fun V => order_Z x y d V hd
        have HIN : Hid (insI (x, y, d) ys = if decide (0 < downK ys (domO x.toNat y.toNat d) ys.length) && (dAt ys (downK ys (domO x.toNat y.toNat d) ys.length - 1) == (x, y, d)) then ys else ys.take (downK ys (domO x.toNat y.toNat d) ys.length) ++ (x, y, d) :: ys.drop (downK ys (domO x.toNat y.toNat d) ys.length)) := rfl
        generalize domO x.toNat y.toNat d = o at *
        obtain ⟨q, HQ⟩ : ∃ q, Hid (downK ys o ys.length = q) := ⟨_, rfl⟩
        rw [HQ.out] at HIN
        rw [HIN.out] at HE
        clear hd HIN
        go_wp2_with fail
        go_loopw [6] (fun s wr2 => ∃ j : Nat, j ≤ ys.length ∧ s = .int .i64 j ∧ Hid (downK ys o j = q) ∧ Hid (Below w1.heap.size w1 wr2)) (fun s _ => (intOf s).toNat)
        case atStart => exact ⟨ys.length, Nat.le_refl _, rfl, HQ, Below.refl _ _⟩
        case round =>
          obtain ⟨j, hj, rfl, HJ, HB⟩ := hrel
          have HA4 := Lib.hid (HA3.out.below HB.out)
          have HK2 := Lib.hid (blk_below HK1.out HB.out)
          obtain ⟨e1, e2, e3⟩ := tri_cells HK2.out
          clear f1 f2 f3
          have hj0 : (0 : Int) ≤ (j : Int) := by omega
          have hw1 : IntKind.i64.wrap ((j : Int) + 1) = (j : Int) + 1 := IntWalk.i64_in _ (by omega)
          have hn1 : ((j : Int) + 1).toNat = j + 1 := by omega
          by_cases hjz : j = 0
          · have hq0 : q = 0 := by subst hjz; exact HJ.out.symm
            have HE0 : Hid (st (k + 1) = ys.take j ++ (x, y, d) :: ys.drop j) := by unfold Hid; rw [HE.out, hq0, hjz]; simp
            have htz : decide (0 < j) = false := by simp only [decide_eq_false_iff_not]; omega
            clear HE hq0 hjz
            go_wp2_with fail
            go_quiet (fail)
            obtain ⟨W5, HW5⟩ : ∃ W5, Hid (W5 = wr.drewN nq) := ⟨_, rfl⟩
            rw [← HW5.out]
            go_wp2_with fail
            go_quiet (fail)
            obtain ⟨W6, HW6⟩ : ∃ W6, Hid (W6 = W5.drewN nq) := ⟨_, rfl⟩
            rw [← HW6.out]
            have HBW : Hid (Below wr.heap.size wr W6) := by unfold Hid; rw [HW6.out, HW5.out]; exact (Drawn.below ⟨_, rfl⟩ _).trans ((Drawn.below ⟨_, rfl⟩ _))
            have HA6 := Lib.hid (HA4.out.below HBW.out)
            have HK6 := Lib.hid (blk_below HK2.out HBW.out)
            go_wp2_with (at_builtin; refine wpList_push okDomino rfl _ _ rfl HA6.out rfl (0, 0, false) _ rfl _ rfl rfl (by omega) ?_; intro v7 w7 HA7 HG7; obtain ⟨g7, c7, hv7, hgb7, hglt7⟩ := World.ownsRow.form HA7.out.1 (by simp); rw [List.length_append, List.length_singleton] at hv7; subst hv7)
            have hc7 : ys.length + 1 ≤ c7 := by
              obtain ⟨A9, c9, hv9, q91, q92, _⟩ := HA7.out.1.rd okDomino
              simp at hv9 q91
              omega
            have hge : (0 : Int) ≤ (j : Int) + 1 := by omega
            have HK7 := Lib.hid (blk_grew HK6.out HG7.out HOB.out)
            by_cases hjl : j = ys.length
            · have hle : (j : Int) + 1 ≤ (ys.length : Int) + 1 := by omega
              have hle' : (j : Int) ≤ (ys.length : Int) + 1 := by omega
              have hmin : Nat.min (ys.length + 1 - j) (ys.length - j) = 0 := by show min _ _ = 0; omega
              have HJL := Lib.hid hjl
              clear hjl
              refine wp_region_held_drew (S := fun _ => True) (by kernel_rfl) (by exact trivial) (fun hHeld => ?_)
              refine wpAnyH_take (i := 0) (oi := ⟨_, _, _, _, _, _⟩) (v := ?vap29651q1n0) rfl (by kernel_rfl) (by kernel_rfl) (by kernel_rfl) (fun _ _ _ h => h) (Or.inl ⟨by rfl, ?hap29651q1n0⟩) (by assumption) ?_
              case hap29651q1n0 => (intro w hSw; (try dsimp only at hSw); go_simp; try with_reducible rfl)
              try simp only [Act.put, List.setIfInBounds_toArray, List.set_cons_zero, List.set_cons_succ]
              refine wpAnyH_take (i := 1) (oi := ⟨_, _, _, _, _, _⟩) (v := ?vap29651q2n1) rfl (by kernel_rfl) (by kernel_rfl) (by kernel_rfl) (fun _ _ _ h => h) (Or.inl ⟨by rfl, ?hap29651q2n1⟩) (by assumption) ?_
              case hap29651q2n1 => (intro w hSw; (try dsimp only at hSw); go_simp; try with_reducible rfl)
              try simp only [Act.put, List.setIfInBounds_toArray, List.set_cons_zero, List.set_cons_succ]
              refine wpAnyH_take (i := 2) (oi := ⟨_, _, _, _, _, _⟩) (v := ?vap29651q3n2) rfl (by kernel_rfl) (by kernel_rfl) (by kernel_rfl) (fun _ _ _ h => h) (Or.inl ⟨by rfl, ?hap29651q3n2⟩) (by assumption) ?_
              case hap29651q3n2 => (intro w hSw; (try dsimp only at hSw); go_simp; try with_reducible rfl)
              try simp only [Act.put, List.setIfInBounds_toArray, List.set_cons_zero, List.set_cons_succ]
              refine wpAnyH_take (i := 3) (oi := ⟨_, _, _, _, _, _⟩) (v := ?vap29651q4n3) rfl (by kernel_rfl) (by kernel_rfl) (by kernel_rfl) (fun _ _ _ h => h) (Or.inl ⟨by rfl, ?hap29651q4n3⟩) (by assumption) ?_
              case hap29651q4n3 => (intro w hSw; (try dsimp only at hSw); go_simp; try with_reducible rfl)
              try simp only [Act.put, List.setIfInBounds_toArray, List.set_cons_zero, List.set_cons_succ]
              refine wpAnyH_take (i := 4) (oi := ⟨_, _, _, _, _, _⟩) (v := ?vap29651q5n4) rfl (by kernel_rfl) (by kernel_rfl) (by kernel_rfl) (fun _ _ _ h => h) (Or.inl ⟨by rfl, ?hap29651q5n4⟩) (by assumption) ?_
              case hap29651q5n4 => (intro w hSw; (try dsimp only at hSw); go_simp; try with_reducible rfl)
              try simp only [Act.put, List.setIfInBounds_toArray, List.set_cons_zero, List.set_cons_succ]
              refine wpAnyH_take (i := 5) (oi := ⟨_, _, _, _, _, _⟩) (v := ?vap29651q6n5) rfl (by kernel_rfl) (by kernel_rfl) (by kernel_rfl) (fun _ _ _ h => h) (Or.inl ⟨by rfl, ?hap29651q6n5⟩) (by assumption) ?_
              case hap29651q6n5 => (intro w hSw; (try dsimp only at hSw); go_simp; try with_reducible rfl)
              try simp only [Act.put, List.setIfInBounds_toArray, List.set_cons_zero, List.set_cons_succ]
              refine wpAnyH_take (i := 6) (oi := ⟨_, _, _, _, _, _⟩) (v := ?vap29651q7n6) rfl (by kernel_rfl) (by kernel_rfl) (by kernel_rfl) (fun _ _ _ h => h) (Or.inl ⟨by rfl, ?hap29651q7n6⟩) (by assumption) ?_
              case hap29651q7n6 => (intro w hSw; (try dsimp only at hSw); go_simp; try with_reducible rfl)
              try simp only [Act.put, List.setIfInBounds_toArray, List.set_cons_zero, List.set_cons_succ]
              refine wpAnyH_ready (rs := [7]) (by kernel_rfl) (by simp) ?_
              refine AllReadyH.cons (o := ⟨_, _, _, _, _, _⟩) rfl (fun K hK => ?_) AllReadyH.nil
              refine step_copyNone okDomino (by rfl) (.tmp 52) (.tmp 55) (by rfl) (by rfl) (by rfl) hmin ?_
              refine hK.out _ _ (by exact trivial) (fun hHeld => ?_)
              clear hK K
              try simp only [Act.put, List.setIfInBounds_toArray, List.set_cons_zero, List.set_cons_succ]
              refine wpAnyH_done (by kernel_rfl) ?_ _
              obtain ⟨w8, HW8⟩ : ∃ w8, Hid (w8 = w7.drew) := ⟨_, rfl⟩
              rw [← HW8.out]
              obtain ⟨zs, HZS⟩ : ∃ zs, Hid (zs = ys ++ [((0, 0, false) : Lk)]) := ⟨_, rfl⟩
              have HO8 : Hid (OwnF elDomino w8 w.heap.size (.slice (some ⟨g7, 0, none⟩) zs.length c7) zs) := by
                unfold Hid; rw [HW8.out, HZS.out, List.length_append, List.length_singleton]
                exact HA7.out.1
              have HZL : Hid (zs.length = ys.length + 1) := by rw [HZS.out]; unfold Hid; simp
              have HZE : Hid (zs.set j (x, y, d) = ys.take j ++ (x, y, d) :: ys.drop j) := by unfold Hid; rw [HZS.out, HJL.out]; simp
              have HB8 : Hid (Below w.heap.size w w8) := by unfold Hid; rw [HW8.out]; exact HA7.out.2.1.trans (Drawn.below ⟨_, rfl⟩ _)
              have HK8 := Lib.hid (show w8.heap[_]? = _ from (congrArg (fun q : World => q.heap[_]?) HW8.out).trans HK7.out.1)
              have hzl : zs.length = ys.length + 1 := HZL.out
              obtain ⟨c0, c1, c2, hfr, ht3⟩ := triStore okDomino rfl (fun _ => rfl) (cap := c7) (ls := zs) HO8.out (j := j) (by omega)
              obtain ⟨hst, hgr⟩ := ht3 x y d
              rw [List.length_set, hzl] at hst
              have HBN := Lib.hid (HB8.out.grown hgr HB8.out.size (fun q hq => by obtain rfl := Option.some.inj hq; exact hgb7))
              have hle9 := HBN.out.size
              have HN := Lib.hid hst
              have hj7 : (j : Int) < (ys.length : Int) + 1 := by omega
              obtain ⟨h1, h2, h3⟩ := tri_cells HK8.out
              clear hst hgr ht3 hzl
              go_wp2_with fail
              go_roundw
              case rel => exact ⟨k + 1, _, by omega, by go_num, rfl, by rw [HE0.out, ← HZE.out]; exact ⟨HN.out, HBN.out, Nat.le_refl _, hle9⟩⟩
              case measure => simp [intOf]; omega
            · have hle : (j : Int) + 1 ≤ (ys.length : Int) + 1 := by omega
              have hle' : (j : Int) ≤ (ys.length : Int) + 1 := by omega
              have hc8 : ¬ c7 = j + 1 := by omega
              have hc9 : ¬ c7 = j := by omega
              have hjlt : j < ys.length := by omega
              clear hjl
              refine wp_region_held_drew (S := fun _ => True) (by kernel_rfl) (by exact trivial) (fun hHeld => ?_)
              refine wpAnyH_take (i := 0) (oi := ⟨_, _, _, _, _, _⟩) (v := ?vap29652q1n0) rfl (by kernel_rfl) (by kernel_rfl) (by kernel_rfl) (fun _ _ _ h => h) (Or.inl ⟨by rfl, ?hap29652q1n0⟩) (by assumption) ?_
              case hap29652q1n0 => (intro w hSw; (try dsimp only at hSw); go_simp; try with_reducible rfl)
              try simp only [Act.put, List.setIfInBounds_toArray, List.set_cons_zero, List.set_cons_succ]
              refine wpAnyH_take (i := 1) (oi := ⟨_, _, _, _, _, _⟩) (v := ?vap29652q2n1) rfl (by kernel_rfl) (by kernel_rfl) (by kernel_rfl) (fun _ _ _ h => h) (Or.inl ⟨by rfl, ?hap29652q2n1⟩) (by assumption) ?_
              case hap29652q2n1 => (intro w hSw; (try dsimp only at hSw); go_simp; try with_reducible rfl)
              try simp only [Act.put, List.setIfInBounds_toArray, List.set_cons_zero, List.set_cons_succ]
              refine wpAnyH_take (i := 2) (oi := ⟨_, _, _, _, _, _⟩) (v := ?vap29652q3n2) rfl (by kernel_rfl) (by kernel_rfl) (by kernel_rfl) (fun _ _ _ h => h) (Or.inl ⟨by rfl, ?hap29652q3n2⟩) (by assumption) ?_
              case hap29652q3n2 => (intro w hSw; (try dsimp only at hSw); go_simp; try with_reducible rfl)
              try simp only [Act.put, List.setIfInBounds_toArray, List.set_cons_zero, List.set_cons_succ]
              refine wpAnyH_take (i := 3) (oi := ⟨_, _, _, _, _, _⟩) (v := ?vap29652q4n3) rfl (by kernel_rfl) (by kernel_rfl) (by kernel_rfl) (fun _ _ _ h => h) (Or.inl ⟨by rfl, ?hap29652q4n3⟩) (by assumption) ?_
              case hap29652q4n3 => (intro w hSw; (try dsimp only at hSw); go_simp; try with_reducible rfl)
              try simp only [Act.put, List.setIfInBounds_toArray, List.set_cons_zero, List.set_cons_succ]
              refine wpAnyH_take (i := 4) (oi := ⟨_, _, _, _, _, _⟩) (v := ?vap29652q5n4) rfl (by kernel_rfl) (by kernel_rfl) (by kernel_rfl) (fun _ _ _ h => h) (Or.inl ⟨by rfl, ?hap29652q5n4⟩) (by assumption) ?_
              case hap29652q5n4 => (intro w hSw; (try dsimp only at hSw); go_simp; try with_reducible rfl)
              try simp only [Act.put, List.setIfInBounds_toArray, List.set_cons_zero, List.set_cons_succ]
              refine wpAnyH_take (i := 5) (oi := ⟨_, _, _, _, _, _⟩) (v := ?vap29652q6n5) rfl (by kernel_rfl) (by kernel_rfl) (by kernel_rfl) (fun _ _ _ h => h) (Or.inl ⟨by rfl, ?hap29652q6n5⟩) (by assumption) ?_
              case hap29652q6n5 => (intro w hSw; (try dsimp only at hSw); go_simp; try with_reducible rfl)
              try simp only [Act.put, List.setIfInBounds_toArray, List.set_cons_zero, List.set_cons_succ]
              refine wpAnyH_take (i := 6) (oi := ⟨_, _, _, _, _, _⟩) (v := ?vap29652q7n6) rfl (by kernel_rfl) (by kernel_rfl) (by kernel_rfl) (fun _ _ _ h => h) (Or.inl ⟨by rfl, ?hap29652q7n6⟩) (by assumption) ?_
              case hap29652q7n6 => (intro w hSw; (try dsimp only at hSw); go_simp; try with_reducible rfl)
              try simp only [Act.put, List.setIfInBounds_toArray, List.set_cons_zero, List.set_cons_succ]
              refine wpAnyH_ready (rs := [7]) (by kernel_rfl) (by simp) ?_
              refine AllReadyH.cons (o := ⟨_, _, _, _, _, _⟩) rfl (fun K hK => ?_) AllReadyH.nil
              refine step_copyIn okDomino (by rfl) (.tmp 52) (.tmp 55) (by rfl) g7 c7 j (ys.length - j) _ _ w.heap.size ys (0, 0, false) (by rfl) (by rfl) (by rfl) (show OwnF _ w7.drew _ _ _ from HA7.out.1) hjlt ?_
              intro w8 HO8 HG8
              refine hK.out _ _ (by exact trivial) (fun hHeld => ?_)
              clear hK K
              try simp only [Act.put, List.setIfInBounds_toArray, List.set_cons_zero, List.set_cons_succ]
              refine wpAnyH_done (by kernel_rfl) ?_ _
              obtain ⟨zs, HZS⟩ : ∃ zs, Hid (zs = ys.take (j + 1) ++ ys.drop j) := ⟨_, rfl⟩
              have HZL : Hid (zs.length = ys.length + 1) := by rw [HZS.out]; unfold Hid; simp; omega
              have HO8 : Hid (OwnF elDomino w8 w.heap.size (.slice (some ⟨g7, 0, none⟩) zs.length c7) zs) := by
                unfold Hid; rw [HZL.out, HZS.out]
                exact HO8.out
              have HZE : Hid (zs.set j (x, y, d) = ys.take j ++ (x, y, d) :: ys.drop j) := by unfold Hid; rw [HZS.out]; exact set_shift ys j (x, y, d) hjlt
              have HB8 : Hid (Below w.heap.size w w8) := by
                have h9 : Below w.heap.size w w7.drew := HA7.out.2.1.trans (Drawn.below ⟨_, rfl⟩ _)
                exact h9.grown HG8.out h9.size (fun q hq => by obtain rfl := Option.some.inj hq; exact hgb7)
              have HK8 := Lib.hid ((HG8.out.block _ (lt_of_block HK7.out.1) (fun e => HK7.out.2 g7 rfl (Option.some.inj e))).trans HK7.out.1)
              have hzl : zs.length = ys.length + 1 := HZL.out
              obtain ⟨c0, c1, c2, hfr, ht3⟩ := triStore okDomino rfl (fun _ => rfl) (cap := c7) (ls := zs) HO8.out (j := j) (by omega)
              obtain ⟨hst, hgr⟩ := ht3 x y d
              rw [List.length_set, hzl] at hst
              have HBN := Lib.hid (HB8.out.grown hgr HB8.out.size (fun q hq => by obtain rfl := Option.some.inj hq; exact hgb7))
              have hle9 := HBN.out.size
              have HN := Lib.hid hst
              have hj7 : (j : Int) < (ys.length : Int) + 1 := by omega
              obtain ⟨h1, h2, h3⟩ := tri_cells HK8.out
              clear hst hgr ht3 hzl
              go_wp2_with fail
              go_roundw
              case rel => exact ⟨k + 1, _, by omega, by go_num, rfl, by rw [HE0.out, ← HZE.out]; exact ⟨HN.out, HBN.out, Nat.le_refl _, hle9⟩⟩
              case measure => simp [intOf]; omega
          · obtain ⟨m, hm⟩ : ∃ m, j = m + 1 := ⟨j - 1, by omega⟩
            have htz : decide (0 < j) = true := by simp only [decide_eq_true_eq]; omega
            have hjm : IntKind.i64.wrap ((j : Int) - 1) = (m : Int) := by rw [IntWalk.i64_in _ (by omega)]; omega
            have hm0 : (0 : Int) ≤ (m : Int) := by omega
            have hml : m < ys.length := by omega
            have hm1 : (m : Int) < (ys.length : Int) := by omega
            have hmj : m < j := by omega
            have HDJ : Hid (downK ys o j = if o < ordL (dAt ys m) then downK ys o m else m + 1) := by unfold Hid; rw [hm]; rfl
            have HQJ : Hid (downK ys o m = q → downK ys o m = q) := fun h => h
            obtain ⟨Ar, cr, hvr, _, _, Gr⟩ := RdT.of (E := elDomino) rfl (fun _ => rfl) (HA4.out.1.rd okDomino)
            obtain ⟨ad1, hA1, hbl1, r1, r2, r3⟩ := Gr.out m hml
            have hAe : A1 = Ar := by simp at hvr; exact hvr.1
            rw [hA1] at hAe
            subst hAe
            clear hvr Gr hA1
            have HDM : Hid (dAt ys m = (lx ys m, ly ys m, ld ys m)) := rfl
            have HOK := Lib.hid (HYS.out.ok hml)
            rw [HDM.out] at HOK
            have hOKM : domB (lx ys m) (ly ys m) (ld ys m) = true := HOK.out
            have hC1 := Lib.hid fun V => order_Z (lx ys m) (ly ys m) (ld ys m) V hOKM
            have HOM : Hid (ordL (dAt ys m) = domO (lx ys m).toNat (ly ys m).toNat (ld ys m)) := rfl
            rw [HOM.out] at HDJ
            have HEQ : Hid (dAt ys m = (lx ys m, ly ys m, ld ys m)) := rfl
            have hk2 := lt_of_block HK2.out
            have hp2 : (ad1.add (m * 3)).block < wr.heap.size := by rw [addBlock]; exact hbl1
            have HL2 := Lib.hid hk2; have HP2 := Lib.hid hp2
            have HS0 : Hid (PrevT wr wr vn x y d (ad1.add (m * 3)) (lx ys m) (ly ys m) (ld ys m)) := ⟨e1, e2, e3, r1, r2, r3, Nat.le_refl _, Below.refl _ _⟩
            clear HOM HOK hOKM HDM hk2 hp2
            generalize domO (lx ys m).toNat (ly ys m).toNat (ld ys m) = n1 at *
            generalize lx ys m = x2 at *
            generalize ly ys m = y2 at *
            generalize ld ys m = d2 at *
            by_cases hgt : o < n1
            · have hcmp : decide (o < n1) = true := by simpa using hgt
              have HJ2 : Hid (downK ys o m = q) := by unfold Hid; rw [← HJ.out, HDJ.out, if_pos hgt]
              clear hgt HDJ hm
              go_wp2_with fail
              go_region_held3 (fun w' => PrevT wr w' vn x y d (ad1.add (m * 3)) x2 y2 d2)
                (first
                  | exact HS0.out.drew
                  | exact PrevT.keep hb1 HL2.out HP2.out (by assumption))
                (first
                  | (go_at_call 66; (with_reducible refine (hC1.out _).mono ?_); rintro e w3 ⟨rfl, hb1⟩)
                  | (go_at_call 66; (with_reducible refine (hC2.out _).mono ?_); rintro e w3 ⟨rfl, hb1⟩))
              have HP3 := Lib.hid (show PrevT wr _ vn x y d (ad1.add (m * 3)) x2 y2 d2 from by assumption)
              have HB3 := Lib.hid (HB.out.trans (HP3.out.2.2.2.2.2.2.2.mono HB.out.size))
              clear e1 e2 e3 r1 r2 r3
              go_wp2_with fail
              go_roundw
              case rel => exact ⟨m, by omega, rfl, HJ2, HB3⟩
              case measure => simp [intOf]; omega
            · have hcmp : decide (o < n1) = false := by simpa using hgt
              have HQM : Hid (q = j) := by unfold Hid; rw [← HJ.out, HDJ.out, if_neg hgt, hm]
              clear hgt HDJ
              have HM1 := Lib.hid hm
              clear hm
              go_wp2_with fail
              go_region_held3 (fun w' => PrevT wr w' vn x y d (ad1.add (m * 3)) x2 y2 d2)
                (first
                  | exact HS0.out.drew
                  | exact PrevT.keep hb1 HL2.out HP2.out (by assumption))
                (first
                  | (go_at_call 66; (with_reducible refine (hC1.out _).mono ?_); rintro e w3 ⟨rfl, hb1⟩)
                  | (go_at_call 66; (with_reducible refine (hC2.out _).mono ?_); rintro e w3 ⟨rfl, hb1⟩))
              have HP3 := Lib.hid (show PrevT wr _ vn x y d (ad1.add (m * 3)) x2 y2 d2 from by assumption)
              clear e1 e2 e3 r1 r2 r3
              obtain ⟨e1, e2, e3, r1, r2, r3, _, hb3⟩ := HP3.out
              have HB3 := Lib.hid hb3
              clear hb3
              by_cases heq : (x2, y2, d2) = (x, y, d)
              · have HE1 : Hid (st (k + 1) = ys) := by
                  unfold Hid; rw [HE.out, HQM.out, if_pos]
                  rw [HM1.out]
                  simp only [Nat.add_sub_cancel, HEQ.out, heq]
                  simp
                simp only [Prod.mk.injEq] at heq
                obtain ⟨rfl, rfl, rfl⟩ := heq
                go_wp2_with fail
                go_quiet (fail)
                have HA9 := Lib.hid (HA4.out.below (HB3.out.trans (Drawn.below ⟨nq, rfl⟩ _)))
                go_wp2_with fail
                go_roundw
                case rel => exact ⟨k + 1, _, by omega, by go_num, rfl, by rw [HE1.out]; exact HA9⟩
                case measure => simp [intOf]; omega
              · have HE0 : Hid (st (k + 1) = ys.take j ++ (x, y, d) :: ys.drop j) := by
                  unfold Hid; rw [HE.out, HQM.out, if_neg]
                  rw [HM1.out]
                  simp only [Nat.add_sub_cancel, HEQ.out]
                  simpa using heq
                have hsq : ∀ W : World, Sem.run Tryz.prog (binOp .eql 51 (.agg #[.int .i64 x2, .int .i64 y2, .bool d2]) (.agg #[.int .i64 x, .int .i64 y, .bool d])) W = .ok (.bool false) W := fun W => by
                  by_cases h1 : x2 = x
                  · by_cases h2 : y2 = y
                    · have h3 : ¬ d2 = d := fun h => heq (by rw [h1, h2, h])
                      go_simp
                    · go_simp
                  · go_simp
                clear heq HE
                go_wp2_with fail
                go_quiet (fail)
                clear hsq
                obtain ⟨W6, HW6⟩ : ∃ W6, Hid (W6 = World.drewN w3 nq) := ⟨_, rfl⟩
                rw [← HW6.out]
                have HBW : Hid (Below wr.heap.size wr W6) := by unfold Hid; rw [HW6.out]; exact HB3.out.trans (Drawn.below ⟨_, rfl⟩ _)
                have HA6 := Lib.hid (HA4.out.below HBW.out)
                have HK6 := Lib.hid (blk_below HK2.out HBW.out)
                go_wp2_with (at_builtin; refine wpList_push okDomino rfl _ _ rfl HA6.out rfl (0, 0, false) _ rfl _ rfl rfl (by omega) ?_; intro v7 w7 HA7 HG7; obtain ⟨g7, c7, hv7, hgb7, hglt7⟩ := World.ownsRow.form HA7.out.1 (by simp); rw [List.length_append, List.length_singleton] at hv7; subst hv7)
                have hc7 : ys.length + 1 ≤ c7 := by
                  obtain ⟨A9, c9, hv9, q91, q92, _⟩ := HA7.out.1.rd okDomino
                  simp at hv9 q91
                  omega
                have hge : (0 : Int) ≤ (j : Int) + 1 := by omega
                have HK7 := Lib.hid (blk_grew HK6.out HG7.out HOB.out)
                by_cases hjl : j = ys.length
                · have hle : (j : Int) + 1 ≤ (ys.length : Int) + 1 := by omega
                  have hle' : (j : Int) ≤ (ys.length : Int) + 1 := by omega
                  have hmin : Nat.min (ys.length + 1 - j) (ys.length - j) = 0 := by show min _ _ = 0; omega
                  have HJL := Lib.hid hjl
                  clear hjl
                  refine wp_region_held_drew (S := fun _ => True) (by kernel_rfl) (by exact trivial) (fun hHeld => ?_)
                  refine wpAnyH_take (i := 0) (oi := ⟨_, _, _, _, _, _⟩) (v := ?vap29653q1n0) rfl (by kernel_rfl) (by kernel_rfl) (by kernel_rfl) (fun _ _ _ h => h) (Or.inl ⟨by rfl, ?hap29653q1n0⟩) (by assumption) ?_
                  case hap29653q1n0 => (intro w hSw; (try dsimp only at hSw); go_simp; try with_reducible rfl)
                  try simp only [Act.put, List.setIfInBounds_toArray, List.set_cons_zero, List.set_cons_succ]
                  refine wpAnyH_take (i := 1) (oi := ⟨_, _, _, _, _, _⟩) (v := ?vap29653q2n1) rfl (by kernel_rfl) (by kernel_rfl) (by kernel_rfl) (fun _ _ _ h => h) (Or.inl ⟨by rfl, ?hap29653q2n1⟩) (by assumption) ?_
                  case hap29653q2n1 => (intro w hSw; (try dsimp only at hSw); go_simp; try with_reducible rfl)
                  try simp only [Act.put, List.setIfInBounds_toArray, List.set_cons_zero, List.set_cons_succ]
                  refine wpAnyH_take (i := 2) (oi := ⟨_, _, _, _, _, _⟩) (v := ?vap29653q3n2) rfl (by kernel_rfl) (by kernel_rfl) (by kernel_rfl) (fun _ _ _ h => h) (Or.inl ⟨by rfl, ?hap29653q3n2⟩) (by assumption) ?_
                  case hap29653q3n2 => (intro w hSw; (try dsimp only at hSw); go_simp; try with_reducible rfl)
                  try simp only [Act.put, List.setIfInBounds_toArray, List.set_cons_zero, List.set_cons_succ]
                  refine wpAnyH_take (i := 3) (oi := ⟨_, _, _, _, _, _⟩) (v := ?vap29653q4n3) rfl (by kernel_rfl) (by kernel_rfl) (by kernel_rfl) (fun _ _ _ h => h) (Or.inl ⟨by rfl, ?hap29653q4n3⟩) (by assumption) ?_
                  case hap29653q4n3 => (intro w hSw; (try dsimp only at hSw); go_simp; try with_reducible rfl)
                  try simp only [Act.put, List.setIfInBounds_toArray, List.set_cons_zero, List.set_cons_succ]
                  refine wpAnyH_take (i := 4) (oi := ⟨_, _, _, _, _, _⟩) (v := ?vap29653q5n4) rfl (by kernel_rfl) (by kernel_rfl) (by kernel_rfl) (fun _ _ _ h => h) (Or.inl ⟨by rfl, ?hap29653q5n4⟩) (by assumption) ?_
                  case hap29653q5n4 => (intro w hSw; (try dsimp only at hSw); go_simp; try with_reducible rfl)
                  try simp only [Act.put, List.setIfInBounds_toArray, List.set_cons_zero, List.set_cons_succ]
                  refine wpAnyH_take (i := 5) (oi := ⟨_, _, _, _, _, _⟩) (v := ?vap29653q6n5) rfl (by kernel_rfl) (by kernel_rfl) (by kernel_rfl) (fun _ _ _ h => h) (Or.inl ⟨by rfl, ?hap29653q6n5⟩) (by assumption) ?_
                  case hap29653q6n5 => (intro w hSw; (try dsimp only at hSw); go_simp; try with_reducible rfl)
                  try simp only [Act.put, List.setIfInBounds_toArray, List.set_cons_zero, List.set_cons_succ]
                  refine wpAnyH_take (i := 6) (oi := ⟨_, _, _, _, _, _⟩) (v := ?vap29653q7n6) rfl (by kernel_rfl) (by kernel_rfl) (by kernel_rfl) (fun _ _ _ h => h) (Or.inl ⟨by rfl, ?hap29653q7n6⟩) (by assumption) ?_
                  case hap29653q7n6 => (intro w hSw; (try dsimp only at hSw); go_simp; try with_reducible rfl)
                  try simp only [Act.put, List.setIfInBounds_toArray, List.set_cons_zero, List.set_cons_succ]
                  refine wpAnyH_ready (rs := [7]) (by kernel_rfl) (by simp) ?_
                  refine AllReadyH.cons (o := ⟨_, _, _, _, _, _⟩) rfl (fun K hK => ?_) AllReadyH.nil
                  refine step_copyNone okDomino (by rfl) (.tmp 52) (.tmp 55) (by rfl) (by rfl) (by rfl) hmin ?_
                  refine hK.out _ _ (by exact trivial) (fun hHeld => ?_)
                  clear hK K
                  try simp only [Act.put, List.setIfInBounds_toArray, List.set_cons_zero, List.set_cons_succ]
                  refine wpAnyH_done (by kernel_rfl) ?_ _
                  obtain ⟨w8, HW8⟩ : ∃ w8, Hid (w8 = w7.drew) := ⟨_, rfl⟩
                  rw [← HW8.out]
                  obtain ⟨zs, HZS⟩ : ∃ zs, Hid (zs = ys ++ [((0, 0, false) : Lk)]) := ⟨_, rfl⟩
                  have HO8 : Hid (OwnF elDomino w8 w.heap.size (.slice (some ⟨g7, 0, none⟩) zs.length c7) zs) := by
                    unfold Hid; rw [HW8.out, HZS.out, List.length_append, List.length_singleton]
                    exact HA7.out.1
                  have HZL : Hid (zs.length = ys.length + 1) := by rw [HZS.out]; unfold Hid; simp
                  have HZE : Hid (zs.set j (x, y, d) = ys.take j ++ (x, y, d) :: ys.drop j) := by unfold Hid; rw [HZS.out, HJL.out]; simp
                  have HB8 : Hid (Below w.heap.size w w8) := by unfold Hid; rw [HW8.out]; exact HA7.out.2.1.trans (Drawn.below ⟨_, rfl⟩ _)
                  have HK8 := Lib.hid (show w8.heap[_]? = _ from (congrArg (fun q : World => q.heap[_]?) HW8.out).trans HK7.out.1)
                  have hzl : zs.length = ys.length + 1 := HZL.out
                  obtain ⟨c0, c1, c2, hfr, ht3⟩ := triStore okDomino rfl (fun _ => rfl) (cap := c7) (ls := zs) HO8.out (j := j) (by omega)
                  obtain ⟨hst, hgr⟩ := ht3 x y d
                  rw [List.length_set, hzl] at hst
                  have HBN := Lib.hid (HB8.out.grown hgr HB8.out.size (fun q hq => by obtain rfl := Option.some.inj hq; exact hgb7))
                  have hle9 := HBN.out.size
                  have HN := Lib.hid hst
                  have hj7 : (j : Int) < (ys.length : Int) + 1 := by omega
                  obtain ⟨h1, h2, h3⟩ := tri_cells HK8.out
                  clear hst hgr ht3 hzl
                  go_wp2_with fail
                  go_roundw
                  case rel => exact ⟨k + 1, _, by omega, by go_num, rfl, by rw [HE0.out, ← HZE.out]; exact ⟨HN.out, HBN.out, Nat.le_refl _, hle9⟩⟩
                  case measure => simp [intOf]; omega
                · have hle : (j : Int) + 1 ≤ (ys.length : Int) + 1 := by omega
                  have hle' : (j : Int) ≤ (ys.length : Int) + 1 := by omega
                  have hc8 : ¬ c7 = j + 1 := by omega
                  have hc9 : ¬ c7 = j := by omega
                  have hjlt : j < ys.length := by omega
                  clear hjl
                  refine wp_region_held_drew (S := fun _ => True) (by kernel_rfl) (by exact trivial) (fun hHeld => ?_)
                  refine wpAnyH_take (i := 0) (oi := ⟨_, _, _, _, _, _⟩) (v := ?vap29654q1n0) rfl (by kernel_rfl) (by kernel_rfl) (by kernel_rfl) (fun _ _ _ h => h) (Or.inl ⟨by rfl, ?hap29654q1n0⟩) (by assumption) ?_
                  case hap29654q1n0 => (intro w hSw; (try dsimp only at hSw); go_simp; try with_reducible rfl)
                  try simp only [Act.put, List.setIfInBounds_toArray, List.set_cons_zero, List.set_cons_succ]
                  refine wpAnyH_take (i := 1) (oi := ⟨_, _, _, _, _, _⟩) (v := ?vap29654q2n1) rfl (by kernel_rfl) (by kernel_rfl) (by kernel_rfl) (fun _ _ _ h => h) (Or.inl ⟨by rfl, ?hap29654q2n1⟩) (by assumption) ?_
                  case hap29654q2n1 => (intro w hSw; (try dsimp only at hSw); go_simp; try with_reducible rfl)
                  try simp only [Act.put, List.setIfInBounds_toArray, List.set_cons_zero, List.set_cons_succ]
                  refine wpAnyH_take (i := 2) (oi := ⟨_, _, _, _, _, _⟩) (v := ?vap29654q3n2) rfl (by kernel_rfl) (by kernel_rfl) (by kernel_rfl) (fun _ _ _ h => h) (Or.inl ⟨by rfl, ?hap29654q3n2⟩) (by assumption) ?_
                  case hap29654q3n2 => (intro w hSw; (try dsimp only at hSw); go_simp; try with_reducible rfl)
                  try simp only [Act.put, List.setIfInBounds_toArray, List.set_cons_zero, List.set_cons_succ]
                  refine wpAnyH_take (i := 3) (oi := ⟨_, _, _, _, _, _⟩) (v := ?vap29654q4n3) rfl (by kernel_rfl) (by kernel_rfl) (by kernel_rfl) (fun _ _ _ h => h) (Or.inl ⟨by rfl, ?hap29654q4n3⟩) (by assumption) ?_
                  case hap29654q4n3 => (intro w hSw; (try dsimp only at hSw); go_simp; try with_reducible rfl)
                  try simp only [Act.put, List.setIfInBounds_toArray, List.set_cons_zero, List.set_cons_succ]
                  refine wpAnyH_take (i := 4) (oi := ⟨_, _, _, _, _, _⟩) (v := ?vap29654q5n4) rfl (by kernel_rfl) (by kernel_rfl) (by kernel_rfl) (fun _ _ _ h => h) (Or.inl ⟨by rfl, ?hap29654q5n4⟩) (by assumption) ?_
                  case hap29654q5n4 => (intro w hSw; (try dsimp only at hSw); go_simp; try with_reducible rfl)
                  try simp only [Act.put, List.setIfInBounds_toArray, List.set_cons_zero, List.set_cons_succ]
                  refine wpAnyH_take (i := 5) (oi := ⟨_, _, _, _, _, _⟩) (v := ?vap29654q6n5) rfl (by kernel_rfl) (by kernel_rfl) (by kernel_rfl) (fun _ _ _ h => h) (Or.inl ⟨by rfl, ?hap29654q6n5⟩) (by assumption) ?_
                  case hap29654q6n5 => (intro w hSw; (try dsimp only at hSw); go_simp; try with_reducible rfl)
                  try simp only [Act.put, List.setIfInBounds_toArray, List.set_cons_zero, List.set_cons_succ]
                  refine wpAnyH_take (i := 6) (oi := ⟨_, _, _, _, _, _⟩) (v := ?vap29654q7n6) rfl (by kernel_rfl) (by kernel_rfl) (by kernel_rfl) (fun _ _ _ h => h) (Or.inl ⟨by rfl, ?hap29654q7n6⟩) (by assumption) ?_
                  case hap29654q7n6 => (intro w hSw; (try dsimp only at hSw); go_simp; try with_reducible rfl)
                  try simp only [Act.put, List.setIfInBounds_toArray, List.set_cons_zero, List.set_cons_succ]
                  refine wpAnyH_ready (rs := [7]) (by kernel_rfl) (by simp) ?_
                  refine AllReadyH.cons (o := ⟨_, _, _, _, _, _⟩) rfl (fun K hK => ?_) AllReadyH.nil
                  refine step_copyIn okDomino (by rfl) (.tmp 52) (.tmp 55) (by rfl) g7 c7 j (ys.length - j) _ _ w.heap.size ys (0, 0, false) (by rfl) (by rfl) (by rfl) (show OwnF _ w7.drew _ _ _ from HA7.out.1) hjlt ?_
                  intro w8 HO8 HG8
                  refine hK.out _ _ (by exact trivial) (fun hHeld => ?_)
                  clear hK K
                  try simp only [Act.put, List.setIfInBounds_toArray, List.set_cons_zero, List.set_cons_succ]
                  refine wpAnyH_done (by kernel_rfl) ?_ _
                  obtain ⟨zs, HZS⟩ : ∃ zs, Hid (zs = ys.take (j + 1) ++ ys.drop j) := ⟨_, rfl⟩
                  have HZL : Hid (zs.length = ys.length + 1) := by rw [HZS.out]; unfold Hid; simp; omega
                  have HO8 : Hid (OwnF elDomino w8 w.heap.size (.slice (some ⟨g7, 0, none⟩) zs.length c7) zs) := by
                    unfold Hid; rw [HZL.out, HZS.out]
                    exact HO8.out
                  have HZE : Hid (zs.set j (x, y, d) = ys.take j ++ (x, y, d) :: ys.drop j) := by unfold Hid; rw [HZS.out]; exact set_shift ys j (x, y, d) hjlt
                  have HB8 : Hid (Below w.heap.size w w8) := by
                    have h9 : Below w.heap.size w w7.drew := HA7.out.2.1.trans (Drawn.below ⟨_, rfl⟩ _)
                    exact h9.grown HG8.out h9.size (fun q hq => by obtain rfl := Option.some.inj hq; exact hgb7)
                  have HK8 := Lib.hid ((HG8.out.block _ (lt_of_block HK7.out.1) (fun e => HK7.out.2 g7 rfl (Option.some.inj e))).trans HK7.out.1)
                  have hzl : zs.length = ys.length + 1 := HZL.out
                  obtain ⟨c0, c1, c2, hfr, ht3⟩ := triStore okDomino rfl (fun _ => rfl) (cap := c7) (ls := zs) HO8.out (j := j) (by omega)
                  obtain ⟨hst, hgr⟩ := ht3 x y d
                  rw [List.length_set, hzl] at hst
                  have HBN := Lib.hid (HB8.out.grown hgr HB8.out.size (fun q hq => by obtain rfl := Option.some.inj hq; exact hgb7))
                  have hle9 := HBN.out.size
                  have HN := Lib.hid hst
                  have hj7 : (j : Int) < (ys.length : Int) + 1 := by omega
                  obtain ⟨h1, h2, h3⟩ := tri_cells HK8.out
                  clear hst hgr ht3 hzl
                  go_wp2_with fail
                  go_roundw
                  case rel => exact ⟨k + 1, _, by omega, by go_num, rfl, by rw [HE0.out, ← HZE.out]; exact ⟨HN.out, HBN.out, Nat.le_refl _, hle9⟩⟩
                  case measure => simp [intOf]; omega
    · obtain rfl : k = ls.length := by omega
      have ht : decide ((ls.length : Int) < (ls.length : Int)) = false := by simp
      go_wp2_with fail
      go_ret
      exact ⟨_, rfl, HA.out.1, HA.out.2.1⟩
end Go.Proofs.YtehnbalbpfmijaaGreatDoor

namespace Go.Proofs.YtehnbalbpfmijaaGreatDoor
open Go.RowKit
set_option linter.unusedVariables false

theorem alloc_blk {W w7 : World} {o : Obj} (h : W.alloc o = w7) : w7.heap[W.heap.size]? = some o ∧ Below W.heap.size W w7 := by
  rw [← h]; exact ⟨heap_alloc_new _ _, (Below.refl _ _).alloc (Nat.le_refl _) _⟩
theorem tri_set {w w8 : World} {b : Nat} {x0 y0 x y : Int} {d0 d : Bool} {t : TypeId} (k : w.heap[b]? = some (triO x0 y0 d0 t)) (h : ((w.setCell ⟨b, 0, none⟩ (.int .i64 x)).setCell ⟨b, 1, none⟩ (.int .i64 y)).setCell ⟨b, 2, none⟩ (.bool d) = w8) : w8.heap[b]? = some (triO x y d t) ∧ Below b w w8 := by
  rw [← h]
  exact ⟨blk_setCell (k := 2) (blk_setCell (k := 1) (blk_setCell (k := 0) k (.int .i64 x)) (.int .i64 y)) (.bool d), (((Below.refl b w).setCell (p := ⟨b, 0, none⟩) (Nat.le_refl _) _).setCell (p := ⟨b, 1, none⟩) (Nat.le_refl _) _).setCell (p := ⟨b, 2, none⟩) (Nat.le_refl _) _⟩
theorem TwoC.keepB {W W0 w1 : World} {a b B : Nat} {x y x2 y2 : Int} (hb : Below B W0 w1) (hB : W.heap.size ≤ B) (ha : a < W.heap.size) (hbb : b < W.heap.size) (h : TwoC W W0 a b x y x2 y2) : TwoC W w1 a b x y x2 y2 := by
  obtain ⟨h1, h2, h3, h4, h5, h6⟩ := h
  have q : ∀ p : Addr, p.block < W.heap.size → w1.cell? p = W0.cell? p := fun p hp => hb.cell (by omega)
  exact ⟨(q _ ha).trans h1, (q _ ha).trans h2, (q _ hbb).trans h3, (q _ hbb).trans h4, Nat.le_trans h5 hb.size, h6.trans (hb.mono hB)⟩
theorem fltB_nat {s : Nat} {ls : List Lk} (h : fltB s s ls = true) : 1 ≤ s ∧ s ≤ 8 ∧ sTileB (setZ (rectZ s s)) ls = true := by
  unfold fltB at h
  simp only [Bool.and_eq_true, inB_iff, Int.toNat_natCast] at h
  exact ⟨by omega, by omega, h.2⟩
def RetTiling (w : World) (b : Bool) (xs : List Lk) (e : Ending) (w' : World) : Prop := ∃ u, e = .returned (.tuple #[u, .bool b]) ∧ OwnF elDomino w' w.heap.size u xs ∧ Below w.heap.size w w'

set_option maxHeartbeats 1000000 in
theorem turn_one (s x y : Int) (hs : 1 ≤ s ∧ s ≤ 8) (hx : 0 ≤ x ∧ x < s) (hy : 0 ≤ y ∧ y < s) (n0 : Nat) (w : World) (h : w.heap[n0]? = some (.cells #[.int .i64 s] 3 (0, 0))) :
    Calls Tryz.prog 18 #[spotV x y, .pointer (some ⟨n0, 0, none⟩)] w fun e w' => e = .returned (spotV (mapC true s x y).1 (mapC true s x y).2) ∧ Below w.heap.size w w' := by
  obtain ⟨W, hW, k0, k1, hb⟩ := two_alloc w (.cells #[.int .i64 x, .int .i64 y] 44) (.cells #[.int .i64 0, .int .i64 0] 44)
  have h2 := blk_below h hb
  have c0 : W.cell? ⟨n0, 0, none⟩ = some (.int .i64 s) := cell_of_one h2
  have c1 : W.cell? ⟨w.heap.size, 0, none⟩ = some (.int .i64 x) := by rw [blk_cell k0]; rfl
  have c2 : W.cell? ⟨w.heap.size, 1, none⟩ = some (.int .i64 y) := by rw [blk_cell k0]; rfl
  have d1 : W.cell? ⟨w.heap.size + 1, 0, none⟩ = some (.int .i64 0) := by rw [blk_cell k1]; rfl
  have d2 : W.cell? ⟨w.heap.size + 1, 1, none⟩ = some (.int .i64 0) := by rw [blk_cell k1]; rfl
  have d3 : ∀ o, W.frozen? ⟨w.heap.size + 1, o, none⟩ = false := fun o => blk_free k1
  have HW := Lib.hid hW; have HB := Lib.hid hb; have HK1 := Lib.hid k1
  have e1 : IntKind.i64.wrap (s - 1) = s - 1 := IntWalk.i64_in _ (by omega)
  have e2 : IntKind.i64.wrap (s - 1 - y) = s - 1 - y := IntWalk.i64_in _ (by omega)
  have e3 : -9223372036854775808 ≤ s - 1 ∧ s - 1 ≤ 9223372036854775807 := by omega
  clear hW hb k0 k1 h2 h
  go_enter Tryz.func18, Tryz.ntmps18
  go_upto_region 1 with (fail)
  rw [← HW.out]
  go_wp2_with fail
  have hx9 := blk_setCell (k := 1) (blk_setCell (k := 0) HK1.out (.int .i64 (mapC true s x y).1)) (.int .i64 (mapC true s x y).2)
  have hb9 := (HB.out.setCell (p := ⟨w.heap.size + 1, 0, none⟩) (by simp) (.int .i64 (mapC true s x y).1)).setCell (p := ⟨w.heap.size + 1, 1, none⟩) (by simp) (.int .i64 (mapC true s x y).2)
  obtain ⟨X, HX⟩ : ∃ X, Hid (X = (W.setCell ⟨w.heap.size + 1, 0, none⟩ (.int .i64 (mapC true s x y).1)).setCell ⟨w.heap.size + 1, 1, none⟩ (.int .i64 (mapC true s x y).2)) := ⟨_, rfl⟩
  rw [← HX.out] at hx9 hb9
  have r0 : X.cell? ⟨w.heap.size + 1, 0, none⟩ = some (.int .i64 (mapC true s x y).1) := by rw [blk_cell hx9]; rfl
  have r1 : X.cell? ⟨w.heap.size + 1, 1, none⟩ = some (.int .i64 (mapC true s x y).2) := by rw [blk_cell hx9]; rfl
  show bodyPost _ _ _ _ _ ((W.setCell ⟨w.heap.size + 1, 0, none⟩ (.int .i64 (mapC true s x y).1)).setCell ⟨w.heap.size + 1, 1, none⟩ (.int .i64 (mapC true s x y).2))
  rw [← HX.out]
  exact bodyPost_ret (v := spotV (mapC true s x y).1 (mapC true s x y).2) (by simp [results, Tryz.results18, go_sem, r0, r1]) rfl ⟨rfl, hb9⟩

set_option maxHeartbeats 1000000 in
theorem mirror_one (s x y : Int) (hs : 1 ≤ s ∧ s ≤ 8) (hx : 0 ≤ x ∧ x < s) (hy : 0 ≤ y ∧ y < s) (n0 : Nat) (w : World) (h : w.heap[n0]? = some (.cells #[.int .i64 s] 3 (0, 0))) :
    Calls Tryz.prog 19 #[spotV x y, .pointer (some ⟨n0, 0, none⟩)] w fun e w' => e = .returned (spotV (mapC false s x y).1 (mapC false s x y).2) ∧ Below w.heap.size w w' := by
  obtain ⟨W, hW, k0, k1, hb⟩ := two_alloc w (.cells #[.int .i64 x, .int .i64 y] 44) (.cells #[.int .i64 0, .int .i64 0] 44)
  have h2 := blk_below h hb
  have c0 : W.cell? ⟨n0, 0, none⟩ = some (.int .i64 s) := cell_of_one h2
  have c1 : W.cell? ⟨w.heap.size, 0, none⟩ = some (.int .i64 x) := by rw [blk_cell k0]; rfl
  have c2 : W.cell? ⟨w.heap.size, 1, none⟩ = some (.int .i64 y) := by rw [blk_cell k0]; rfl
  have d1 : W.cell? ⟨w.heap.size + 1, 0, none⟩ = some (.int .i64 0) := by rw [blk_cell k1]; rfl
  have d2 : W.cell? ⟨w.heap.size + 1, 1, none⟩ = some (.int .i64 0) := by rw [blk_cell k1]; rfl
  have d3 : ∀ o, W.frozen? ⟨w.heap.size + 1, o, none⟩ = false := fun o => blk_free k1
  have HW := Lib.hid hW; have HB := Lib.hid hb; have HK1 := Lib.hid k1
  have e1 : IntKind.i64.wrap (s - 1) = s - 1 := IntWalk.i64_in _ (by omega)
  have e2 : IntKind.i64.wrap (s - 1 - x) = s - 1 - x := IntWalk.i64_in _ (by omega)
  have e3 : -9223372036854775808 ≤ s - 1 ∧ s - 1 ≤ 9223372036854775807 := by omega
  clear hW hb k0 k1 h2 h
  go_enter Tryz.func19, Tryz.ntmps19
  go_upto_region 1 with (fail)
  rw [← HW.out]
  go_wp2_with fail
  have hx9 := blk_setCell (k := 1) (blk_setCell (k := 0) HK1.out (.int .i64 (mapC false s x y).1)) (.int .i64 (mapC false s x y).2)
  have hb9 := (HB.out.setCell (p := ⟨w.heap.size + 1, 0, none⟩) (by simp) (.int .i64 (mapC false s x y).1)).setCell (p := ⟨w.heap.size + 1, 1, none⟩) (by simp) (.int .i64 (mapC false s x y).2)
  obtain ⟨X, HX⟩ : ∃ X, Hid (X = (W.setCell ⟨w.heap.size + 1, 0, none⟩ (.int .i64 (mapC false s x y).1)).setCell ⟨w.heap.size + 1, 1, none⟩ (.int .i64 (mapC false s x y).2)) := ⟨_, rfl⟩
  rw [← HX.out] at hx9 hb9
  have r0 : X.cell? ⟨w.heap.size + 1, 0, none⟩ = some (.int .i64 (mapC false s x y).1) := by rw [blk_cell hx9]; rfl
  have r1 : X.cell? ⟨w.heap.size + 1, 1, none⟩ = some (.int .i64 (mapC false s x y).2) := by rw [blk_cell hx9]; rfl
  show bodyPost _ _ _ _ _ ((W.setCell ⟨w.heap.size + 1, 0, none⟩ (.int .i64 (mapC false s x y).1)).setCell ⟨w.heap.size + 1, 1, none⟩ (.int .i64 (mapC false s x y).2))
  rw [← HX.out]
  exact bodyPost_ret (v := spotV (mapC false s x y).1 (mapC false s x y).2) (by simp [results, Tryz.results19, go_sem, r0, r1]) rfl ⟨rfl, hb9⟩

set_option maxRecDepth 100000 in
set_option maxHeartbeats 8000000 in
theorem moved_turn (s : Nat) (v : Value) (ls : List Lk) (n0 : Nat) (B : Nat) (w : World) (h : RdF elDomino w B v ls) (hB : B ≤ w.heap.size) (hn : w.heap[n0]? = some (.cells #[.int .i64 (s : Int)] 3 (0, 0))) (hf : fltB s s ls = true) :
    Calls Tryz.prog 17 #[.int .i64 (s : Int), v, .func (.func 18) #[] #[.pointer (some ⟨n0, 0, none⟩)]] w (RetTiling w true (movZ true s ls)) := by
  have HZ : Hid (movZ true s ls = sortI (movTo true s ls ls.length) ls.length) := by unfold Hid movZ; rw [hf]; rfl
  rw [HZ.out]
  obtain ⟨hs1, hs2, ht⟩ := fltB_nat hf
  have hls := tile_short hs2 ht
  have HIN := Lib.hid (fun k (hk : k < ls.length) => tile_in hs2 ht hk)
  have HLEN := Lib.hid (movTo_len true (s : Int) ls)
  have HMS : Hid (∀ k, movTo true (s : Int) ls (k + 1) = movTo true (s : Int) ls k ++ [movL true (s : Int) (dAt ls k)]) := fun k => rfl
  have HM0 : Hid (movTo true (s : Int) ls 0 = []) := rfl
  obtain ⟨mv, HMV0⟩ : ∃ mv, Hid (mv = movTo true (s : Int) ls) := ⟨_, rfl⟩
  rw [← HMV0.out] at HMS HM0 HLEN ⊢
  have HV := Lib.hid h
  obtain ⟨A, c, rfl, g1, g2, G3⟩ := RdT.of (E := elDomino) rfl (fun _ => rfl) h
  unfold maxLen at g2
  have t1 : inB (s : Int) 1 8 = true := inB_true (by omega) (by omega)
  have hok := rectZ_ok s s hs2 hs2
  have HT : Hid (tileB (setZ (rectZ s s)) ls = true) := by unfold Hid; rw [tile_eq (setZ_lt hok)]; exact ht
  have HOK := Lib.hid hok
  have HN := Lib.hid hn
  clear hok ht h hf HMV0 HZ hn
  go_enter Tryz.func17, Tryz.ntmps17
  go_wp2_with fail
  refine (within_any _ _ _ _).mono ?_
  rintro e w' ⟨rfl, rfl⟩
  rw [t1]
  go_wp2_with fail
  refine (Rectangle_yes s s ⟨hs1, hs2⟩ ⟨hs1, hs2⟩ _).mono ?_
  rintro e w1 ⟨u1, rfl, hr1, hb1⟩
  have HR1 := Lib.hid hr1
  have HB1 := Lib.hid hb1
  clear hb1 hr1
  go_wp2_with fail
  refine (IsTiling_yes _ _ _ ls _ _ HR1.out ((HV.out.below (HB1.out.mono hB)).more (Nat.le_trans hB HB1.out.size)) (Nat.le_refl _) HOK.out).mono ?_
  rintro e w2 ⟨rfl, hb2⟩
  rw [HT.out]
  have HB2 := Lib.hid (HB1.out.trans (hb2.mono HB1.out.size))
  clear hb2
  have HA0 : Hid (Acc elDomino w w.heap.size (w2.alloc (.cells #[] 51)) (.slice (some ⟨w2.heap.size, 0, none⟩) 0 0) []) := by
    have := Acc.startAt (E := elDomino) HB2.out (Nat.le_refl _) HB2.out.size
    exact this
  go_wp2_with fail
  go_loopw [8, 29] (fun o i wr => ∃ (k : Nat) (u : Value), k ≤ ls.length ∧ i = .int .i64 (k : Int) ∧ u = o ∧ Hid (Acc elDomino w w.heap.size wr u (mv k))) (fun _ i _ => ls.length - (intOf i).toNat)
  case atStart => exact ⟨0, _, Nat.zero_le _, rfl, rfl, by rw [HM0.out]; exact HA0⟩
  case round =>
    obtain ⟨k, u, hk, rfl, rfl, HA⟩ := hrel
    obtain ⟨A1, ca, hv, q1, q2, _⟩ := HA.out.1.rd okDomino
    have hml := HLEN.out k
    rw [hml] at hv q1
    subst hv
    unfold maxLen at q2
    by_cases hlt : k < ls.length
    · have ht : decide ((k : Int) < (ls.length : Int)) = true := by simp only [decide_eq_true_eq]; omega
      obtain ⟨ad, rfl, hbl, hx, hy, hz⟩ := G3.out k hlt
      have hbl2 : (ad.add (k * 3)).block < w.heap.size := by rw [addBlock]; omega
      have hbw := HA.out.2.1
      have hx' := (hbw.cell (p := ad.add (k * 3)) hbl2).trans hx
      have hy' := (hbw.cell (p := ⟨(ad.add (k * 3)).block, (ad.add (k * 3)).off + 1, none⟩) hbl2).trans hy
      have hz' := (hbw.cell (p := ⟨(ad.add (k * 3)).block, (ad.add (k * 3)).off + 2, none⟩) hbl2).trans hz
      obtain ⟨hd, hxb, hyb, hxb2, hyb2⟩ := HIN.out k hlt
      have hnx := snd_next hd
      have HMK : Hid (mv (k + 1) = mv k ++ [overL (mapC true s (lx ls k) (ly ls k)).1 (mapC true s (lx ls k) (ly ls k)).2 (mapC true s (sndX (lx ls k) (ld ls k)) (sndY (ly ls k) (ld ls k))).1 (mapC true s (sndX (lx ls k) (ld ls k)) (sndY (ly ls k) (ld ls k))).2]) := HMS.out k
      have HOV0 := Lib.hid (fun V => DominoOver_yes _ _ _ _ (next_mov true hs2 hxb hyb hxb2 hyb2 hnx) V)
      have HEN := Lib.hid (fun V => ends_any (lx ls k) (ly ls k) (ld ls k) V)
      have hk0 : (0 : Int) ≤ (k : Int) := by omega
      have hk1 : (k : Int) < (ls.length : Int) := by omega
      generalize sndX (lx ls k) (ld ls k) = x2 at *
      generalize sndY (ly ls k) (ld ls k) = y2 at *
      generalize lx ls k = x at *
      generalize ly ls k = y at *
      generalize ld ls k = d at *
      obtain ⟨nx, ny, nd, HON⟩ : ∃ nx ny nd, Hid (overL (mapC true s x y).1 (mapC true s x y).2 (mapC true s x2 y2).1 (mapC true s x2 y2).2 = (nx, ny, nd)) := ⟨_, _, _, rfl⟩
      have HMV : Hid (mv (k + 1) = mv k ++ [(nx, ny, nd)]) := by unfold Hid; rw [HMK.out, HON.out]
      have HOV : Hid (∀ V, Calls Tryz.prog 36 #[spotV (mapC true s x y).1 (mapC true s x y).2, spotV (mapC true s x2 y2).1 (mapC true s x2 y2).2] V fun e w' => e = .returned (.tuple #[triV nx ny nd, .bool true]) ∧ Below V.heap.size V w') := by
        have h9 := HOV0.out
        rw [HON.out] at h9
        exact h9
      have hm32 : (mv k).length ≤ 32 := by rw [hml]; omega
      generalize mv k = ys at *
      clear hx hy hz hbw HMK HOV0 HON hnx hd hml
      go_wp2_with fail
      obtain ⟨V0, hV0, k9, hbV0⟩ := one_alloc wr (triO x y d 51)
      rw [← hV0]
      obtain ⟨f0, f1, f2⟩ := tri_cells k9
      have HAV0 := Lib.hid (HA.out.below hbV0)
      clear hV0 k9 hbV0 hx' hy' hz'
      go_wp2_with fail
      refine (HEN.out _).mono ?_
      rintro e w3 ⟨rfl, hb3⟩
      have HA3 := Lib.hid (HAV0.out.below hb3)
      clear f0 f1 f2 hb3
      go_wp2_with fail
      obtain ⟨V, hV, k1, k2, hbV⟩ := two_alloc w3 (.cells #[.int .i64 x, .int .i64 y] 44) (.cells #[.int .i64 x2, .int .i64 y2] 44)
      rw [← hV]
      have HAV := Lib.hid (HA3.out.below hbV)
      have HN0 := Lib.hid (blk_below HN.out HAV.out.2.1)
      have HS0 : Hid (TwoC V V w3.heap.size (w3.heap.size + 1) x y x2 y2) := ⟨by rw [blk_cell k1]; rfl, by rw [blk_cell k1]; rfl, by rw [blk_cell k2]; rfl, by rw [blk_cell k2]; rfl, Nat.le_refl _, Below.refl _ _⟩
      have L1 := Lib.hid (lt_of_block k1)
      have L2 := Lib.hid (lt_of_block k2)
      clear hV k1 k2 hbV
      refine wp_region_held_drew (S := fun w' => TwoC V w' w3.heap.size (w3.heap.size + 1) x y x2 y2) (by kernel_rfl) (by exact HS0.out.drew) (fun hHeld => ?_)
      refine wpAnyH_take (i := 0) (oi := ⟨_, _, _, _, _, _⟩) (v := ?vap549q1n0) rfl (by kernel_rfl) (by kernel_rfl) (by kernel_rfl) (fun _ _ _ h => h) (Or.inl ⟨by rfl, ?hap549q1n0⟩) (by assumption) ?_
      case hap549q1n0 => (intro w hSw; (try dsimp only at hSw); go_simp; try with_reducible rfl)
      try simp only [Act.put, List.setIfInBounds_toArray, List.set_cons_zero, List.set_cons_succ]
      refine wpAnyH_take (i := 1) (oi := ⟨_, _, _, _, _, _⟩) (v := ?vap549q2n1) rfl (by kernel_rfl) (by kernel_rfl) (by kernel_rfl) (fun _ _ _ h => h) (Or.inl ⟨by rfl, ?hap549q2n1⟩) (by assumption) ?_
      case hap549q2n1 => (intro w hSw; (try dsimp only at hSw); go_simp; try with_reducible rfl)
      try simp only [Act.put, List.setIfInBounds_toArray, List.set_cons_zero, List.set_cons_succ]
      refine wpAnyH_take (i := 3) (oi := ⟨_, _, _, _, _, _⟩) (v := ?vap549q3n3) rfl (by kernel_rfl) (by kernel_rfl) (by kernel_rfl) (fun _ _ _ h => h) (Or.inl ⟨by rfl, ?hap549q3n3⟩) (by assumption) ?_
      case hap549q3n3 => (intro w hSw; (try dsimp only at hSw); go_simp; try with_reducible rfl)
      try simp only [Act.put, List.setIfInBounds_toArray, List.set_cons_zero, List.set_cons_succ]
      refine wpAnyH_take (i := 4) (oi := ⟨_, _, _, _, _, _⟩) (v := ?vap549q4n4) rfl (by kernel_rfl) (by kernel_rfl) (by kernel_rfl) (fun _ _ _ h => h) (Or.inl ⟨by rfl, ?hap549q4n4⟩) (by assumption) ?_
      case hap549q4n4 => (intro w hSw; (try dsimp only at hSw); go_simp; try with_reducible rfl)
      try simp only [Act.put, List.setIfInBounds_toArray, List.set_cons_zero, List.set_cons_succ]
      refine wpAnyH_ready (rs := [2, 10]) (by kernel_rfl) (by simp) ?_
      refine AllReadyH.cons (o := ⟨_, _, _, _, _, _⟩) rfl (fun K hK => ?cp549q5n2) (AllReadyH.cons (o := ⟨_, _, _, _, _, _⟩) rfl (fun K hK => ?cp549q5n10) AllReadyH.nil)
      case cp549q5n2 =>
        go_simp
        go_at_call 18
        refine (turn_one s x y (by omega) hxb hyb n0 _ (blk_below HN0.out (show TwoC V _ _ _ _ _ _ _ from hHeld).2.2.2.2.2)).mono ?_
        rintro e w9 ⟨rfl, hb9⟩
        have hS9 := TwoC.keep hb9 L1.out L2.out hHeld
        try replace HK7 := Lib.hid (blk_below HK7.out hb9)
        refine hK.out _ _ (by exact hS9) (fun hHeld => ?_)
        clear hK K
        try simp only [Act.put, List.setIfInBounds_toArray, List.set_cons_zero, List.set_cons_succ]
        refine wpAnyH_ready (rs := [5, 10]) (by kernel_rfl) (by simp) ?_
        refine AllReadyH.cons (o := ⟨_, _, _, _, _, _⟩) rfl (fun K hK => ?cp549q6n5) (AllReadyH.cons (o := ⟨_, _, _, _, _, _⟩) rfl (fun K hK => ?cp549q6n10) AllReadyH.nil)
        case cp549q6n5 =>
          go_simp
          go_at_call 18
          refine (turn_one s x2 y2 (by omega) hxb2 hyb2 n0 _ (blk_below HN0.out (show TwoC V _ _ _ _ _ _ _ from hHeld).2.2.2.2.2)).mono ?_
          rintro e w9 ⟨rfl, hb9⟩
          have hS9 := TwoC.keep hb9 L1.out L2.out hHeld
          try replace HK7 := Lib.hid (blk_below HK7.out hb9)
          refine hK.out _ _ (by exact hS9) (fun hHeld => ?_)
          clear hK K
          try simp only [Act.put, List.setIfInBounds_toArray, List.set_cons_zero, List.set_cons_succ]
          refine wpAnyH_ready (rs := [6, 10]) (by kernel_rfl) (by simp) ?_
          refine AllReadyH.cons (o := ⟨_, _, _, _, _, _⟩) rfl (fun K hK => ?cp549q7n6) (AllReadyH.cons (o := ⟨_, _, _, _, _, _⟩) rfl (fun K hK => ?cp549q7n10) AllReadyH.nil)
          case cp549q7n6 =>
            go_simp
            go_at_call 36
            refine (HOV.out _).mono ?_
            rintro e w9 ⟨rfl, hb9⟩
            have hS9 := TwoC.keep hb9 L1.out L2.out hHeld
            try replace HK7 := Lib.hid (blk_below HK7.out hb9)
            refine hK.out _ _ (by exact hS9) (fun hHeld => ?_)
            clear hK K
            try simp only [Act.put, List.setIfInBounds_toArray, List.set_cons_zero, List.set_cons_succ]
            refine wpAnyH_take (i := 7) (oi := ⟨_, _, _, _, _, _⟩) (v := ?vap549q8n7) rfl (by kernel_rfl) (by kernel_rfl) (by kernel_rfl) (fun _ _ _ h => h) (Or.inl ⟨by rfl, ?hap549q8n7⟩) (by assumption) ?_
            case hap549q8n7 => (intro w hSw; (try dsimp only at hSw); go_simp; try with_reducible rfl)
            try simp only [Act.put, List.setIfInBounds_toArray, List.set_cons_zero, List.set_cons_succ]
            refine wpAnyH_take (i := 8) (oi := ⟨_, _, _, _, _, _⟩) (v := ?vap549q9n8) rfl (by kernel_rfl) (by kernel_rfl) (by kernel_rfl) (fun _ _ _ h => h) (Or.inl ⟨by rfl, ?hap549q9n8⟩) (by assumption) ?_
            case hap549q9n8 => (intro w hSw; (try dsimp only at hSw); go_simp; try with_reducible rfl)
            try simp only [Act.put, List.setIfInBounds_toArray, List.set_cons_zero, List.set_cons_succ]
            refine wpAnyH_take (i := 9) (oi := ⟨_, _, _, _, _, _⟩) (v := ?vap549q10n9) rfl (by kernel_rfl) (by kernel_rfl) (by kernel_rfl) (fun _ _ _ h => h) (Or.inl ⟨by rfl, ?hap549q10n9⟩) (by assumption) ?_
            case hap549q10n9 => (intro w hSw; (try dsimp only at hSw); go_simp; try with_reducible rfl)
            try simp only [Act.put, List.setIfInBounds_toArray, List.set_cons_zero, List.set_cons_succ]
            refine wpAnyH_ready (rs := [10]) (by kernel_rfl) (by simp) ?_
            refine AllReadyH.cons (o := ⟨_, _, _, _, _, _⟩) rfl (fun K hK => ?_) AllReadyH.nil
            have HIX := Lib.hid (show TwoC V _ _ _ _ _ _ _ from hHeld).2.2.2.2.1
            go_simp
            generalize hw7 : World.alloc _ _ = w7
            have hb9 := (alloc_blk hw7).2
            have HK7 := Lib.hid (alloc_blk hw7).1
            first
              | have hS9 := TwoC.keepB hb9 HIX.out L1.out L2.out hHeld
              | (have hS9 := TwoC.drew (TwoC.keepB hb9 (Nat.le_refl _) L1.out L2.out HS0.out); replace HK7 := Lib.hid (show w7.drew.heap[_]? = _ from HK7.out))
            clear hw7
            refine hK.out _ _ (by exact hS9) (fun hHeld => ?_)
            clear hK K
            try simp only [Act.put, List.setIfInBounds_toArray, List.set_cons_zero, List.set_cons_succ]
            refine wpAnyH_ready (rs := [11]) (by kernel_rfl) (by simp) ?_
            refine AllReadyH.cons (o := ⟨_, _, _, _, _, _⟩) rfl (fun K hK => ?_) AllReadyH.nil
            obtain ⟨z0, z1, z2⟩ := tri_cells HK7.out
            have z3 : ∀ o, World.frozen? _ ⟨_, o, none⟩ = false := fun o => blk_free HK7.out
            go_simp
            generalize hw8 : World.setCell _ _ (.bool _) = w8
            have hs8 := tri_set HK7.out hw8
            have HK8 := Lib.hid hs8.1
            have hS9 := TwoC.keepB hs8.2 HIX.out L1.out L2.out hHeld
            clear hw8 hs8 z0 z1 z2 z3
            refine hK.out _ _ (by exact hS9) (fun hHeld => ?_)
            clear hK K
            try simp only [Act.put, List.setIfInBounds_toArray, List.set_cons_zero, List.set_cons_succ]
            refine wpAnyH_take (i := 12) (oi := ⟨_, _, _, _, _, _⟩) (v := ?vap549q11n12) rfl (by kernel_rfl) (by kernel_rfl) (by kernel_rfl) (fun _ _ _ h => h) (Or.inl ⟨by rfl, ?hap549q11n12⟩) (by assumption) ?_
            case hap549q11n12 => (intro w hSw; (try dsimp only at hSw); go_simp; try with_reducible rfl)
            try simp only [Act.put, List.setIfInBounds_toArray, List.set_cons_zero, List.set_cons_succ]
            refine wpAnyH_done (by kernel_rfl) ?_ _
            have HA8 := Lib.hid (HAV.out.below (show TwoC V _ _ _ _ _ _ _ from hS9).2.2.2.2.2)
            obtain ⟨g0, g1, g2⟩ := tri_cells HK8.out
            go_wp2_with (at_builtin; refine wpList_push okDomino rfl _ _ rfl HA8.out rfl (nx, ny, nd) _ rfl _ rfl rfl (by omega) ?_; intro v10 w10 HA10 HG10)
            go_roundw
            case rel => exact ⟨k + 1, _, by omega, by go_num, rfl, by rw [HMV.out]; exact HA10⟩
            case measure => simp [intOf]; omega
          case cp549q7n10 =>
            have HIX := Lib.hid (show TwoC V _ _ _ _ _ _ _ from hHeld).2.2.2.2.1
            go_simp
            generalize hw7 : World.alloc _ _ = w7
            have hb9 := (alloc_blk hw7).2
            have HK7 := Lib.hid (alloc_blk hw7).1
            first
              | have hS9 := TwoC.keepB hb9 HIX.out L1.out L2.out hHeld
              | (have hS9 := TwoC.drew (TwoC.keepB hb9 (Nat.le_refl _) L1.out L2.out HS0.out); replace HK7 := Lib.hid (show w7.drew.heap[_]? = _ from HK7.out))
            clear hw7
            refine hK.out _ _ (by exact hS9) (fun hHeld => ?_)
            clear hK K
            try simp only [Act.put, List.setIfInBounds_toArray, List.set_cons_zero, List.set_cons_succ]
            refine wpAnyH_ready (rs := [6]) (by kernel_rfl) (by simp) ?_
            refine AllReadyH.cons (o := ⟨_, _, _, _, _, _⟩) rfl (fun K hK => ?_) AllReadyH.nil
            go_simp
            go_at_call 36
            refine (HOV.out _).mono ?_
            rintro e w9 ⟨rfl, hb9⟩
            have hS9 := TwoC.keep hb9 L1.out L2.out hHeld
            try replace HK7 := Lib.hid (blk_below HK7.out hb9)
            refine hK.out _ _ (by exact hS9) (fun hHeld => ?_)
            clear hK K
            try simp only [Act.put, List.setIfInBounds_toArray, List.set_cons_zero, List.set_cons_succ]
            refine wpAnyH_take (i := 7) (oi := ⟨_, _, _, _, _, _⟩) (v := ?vap549q12n7) rfl (by kernel_rfl) (by kernel_rfl) (by kernel_rfl) (fun _ _ _ h => h) (Or.inl ⟨by rfl, ?hap549q12n7⟩) (by assumption) ?_
            case hap549q12n7 => (intro w hSw; (try dsimp only at hSw); go_simp; try with_reducible rfl)
            try simp only [Act.put, List.setIfInBounds_toArray, List.set_cons_zero, List.set_cons_succ]
            refine wpAnyH_take (i := 8) (oi := ⟨_, _, _, _, _, _⟩) (v := ?vap549q13n8) rfl (by kernel_rfl) (by kernel_rfl) (by kernel_rfl) (fun _ _ _ h => h) (Or.inl ⟨by rfl, ?hap549q13n8⟩) (by assumption) ?_
            case hap549q13n8 => (intro w hSw; (try dsimp only at hSw); go_simp; try with_reducible rfl)
            try simp only [Act.put, List.setIfInBounds_toArray, List.set_cons_zero, List.set_cons_succ]
            refine wpAnyH_take (i := 9) (oi := ⟨_, _, _, _, _, _⟩) (v := ?vap549q14n9) rfl (by kernel_rfl) (by kernel_rfl) (by kernel_rfl) (fun _ _ _ h => h) (Or.inl ⟨by rfl, ?hap549q14n9⟩) (by assumption) ?_
            case hap549q14n9 => (intro w hSw; (try dsimp only at hSw); go_simp; try with_reducible rfl)
            try simp only [Act.put, List.setIfInBounds_toArray, List.set_cons_zero, List.set_cons_succ]
            refine wpAnyH_ready (rs := [11]) (by kernel_rfl) (by simp) ?_
            refine AllReadyH.cons (o := ⟨_, _, _, _, _, _⟩) rfl (fun K hK => ?_) AllReadyH.nil
            obtain ⟨z0, z1, z2⟩ := tri_cells HK7.out
            have z3 : ∀ o, World.frozen? _ ⟨_, o, none⟩ = false := fun o => blk_free HK7.out
            go_simp
            generalize hw8 : World.setCell _ _ (.bool _) = w8
            have hs8 := tri_set HK7.out hw8
            have HK8 := Lib.hid hs8.1
            have hS9 := TwoC.keepB hs8.2 HIX.out L1.out L2.out hHeld
            clear hw8 hs8 z0 z1 z2 z3
            refine hK.out _ _ (by exact hS9) (fun hHeld => ?_)
            clear hK K
            try simp only [Act.put, List.setIfInBounds_toArray, List.set_cons_zero, List.set_cons_succ]
            refine wpAnyH_take (i := 12) (oi := ⟨_, _, _, _, _, _⟩) (v := ?vap549q15n12) rfl (by kernel_rfl) (by kernel_rfl) (by kernel_rfl) (fun _ _ _ h => h) (Or.inl ⟨by rfl, ?hap549q15n12⟩) (by assumption) ?_
            case hap549q15n12 => (intro w hSw; (try dsimp only at hSw); go_simp; try with_reducible rfl)
            try simp only [Act.put, List.setIfInBounds_toArray, List.set_cons_zero, List.set_cons_succ]
            refine wpAnyH_done (by kernel_rfl) ?_ _
            have HA8 := Lib.hid (HAV.out.below (show TwoC V _ _ _ _ _ _ _ from hS9).2.2.2.2.2)
            obtain ⟨g0, g1, g2⟩ := tri_cells HK8.out
            go_wp2_with (at_builtin; refine wpList_push okDomino rfl _ _ rfl HA8.out rfl (nx, ny, nd) _ rfl _ rfl rfl (by omega) ?_; intro v10 w10 HA10 HG10)
            go_roundw
            case rel => exact ⟨k + 1, _, by omega, by go_num, rfl, by rw [HMV.out]; exact HA10⟩
            case measure => simp [intOf]; omega
        case cp549q6n10 =>
          have HIX := Lib.hid (show TwoC V _ _ _ _ _ _ _ from hHeld).2.2.2.2.1
          go_simp
          generalize hw7 : World.alloc _ _ = w7
          have hb9 := (alloc_blk hw7).2
          have HK7 := Lib.hid (alloc_blk hw7).1
          first
            | have hS9 := TwoC.keepB hb9 HIX.out L1.out L2.out hHeld
            | (have hS9 := TwoC.drew (TwoC.keepB hb9 (Nat.le_refl _) L1.out L2.out HS0.out); replace HK7 := Lib.hid (show w7.drew.heap[_]? = _ from HK7.out))
          clear hw7
          refine hK.out _ _ (by exact hS9) (fun hHeld => ?_)
          clear hK K
          try simp only [Act.put, List.setIfInBounds_toArray, List.set_cons_zero, List.set_cons_succ]
          refine wpAnyH_ready (rs := [5]) (by kernel_rfl) (by simp) ?_
          refine AllReadyH.cons (o := ⟨_, _, _, _, _, _⟩) rfl (fun K hK => ?_) AllReadyH.nil
          go_simp
          go_at_call 18
          refine (turn_one s x2 y2 (by omega) hxb2 hyb2 n0 _ (blk_below HN0.out (show TwoC V _ _ _ _ _ _ _ from hHeld).2.2.2.2.2)).mono ?_
          rintro e w9 ⟨rfl, hb9⟩
          have hS9 := TwoC.keep hb9 L1.out L2.out hHeld
          try replace HK7 := Lib.hid (blk_below HK7.out hb9)
          refine hK.out _ _ (by exact hS9) (fun hHeld => ?_)
          clear hK K
          try simp only [Act.put, List.setIfInBounds_toArray, List.set_cons_zero, List.set_cons_succ]
          refine wpAnyH_ready (rs := [6]) (by kernel_rfl) (by simp) ?_
          refine AllReadyH.cons (o := ⟨_, _, _, _, _, _⟩) rfl (fun K hK => ?_) AllReadyH.nil
          go_simp
          go_at_call 36
          refine (HOV.out _).mono ?_
          rintro e w9 ⟨rfl, hb9⟩
          have hS9 := TwoC.keep hb9 L1.out L2.out hHeld
          try replace HK7 := Lib.hid (blk_below HK7.out hb9)
          refine hK.out _ _ (by exact hS9) (fun hHeld => ?_)
          clear hK K
          try simp only [Act.put, List.setIfInBounds_toArray, List.set_cons_zero, List.set_cons_succ]
          refine wpAnyH_take (i := 7) (oi := ⟨_, _, _, _, _, _⟩) (v := ?vap549q16n7) rfl (by kernel_rfl) (by kernel_rfl) (by kernel_rfl) (fun _ _ _ h => h) (Or.inl ⟨by rfl, ?hap549q16n7⟩) (by assumption) ?_
          case hap549q16n7 => (intro w hSw; (try dsimp only at hSw); go_simp; try with_reducible rfl)
          try simp only [Act.put, List.setIfInBounds_toArray, List.set_cons_zero, List.set_cons_succ]
          refine wpAnyH_take (i := 8) (oi := ⟨_, _, _, _, _, _⟩) (v := ?vap549q17n8) rfl (by kernel_rfl) (by kernel_rfl) (by kernel_rfl) (fun _ _ _ h => h) (Or.inl ⟨by rfl, ?hap549q17n8⟩) (by assumption) ?_
          case hap549q17n8 => (intro w hSw; (try dsimp only at hSw); go_simp; try with_reducible rfl)
          try simp only [Act.put, List.setIfInBounds_toArray, List.set_cons_zero, List.set_cons_succ]
          refine wpAnyH_take (i := 9) (oi := ⟨_, _, _, _, _, _⟩) (v := ?vap549q18n9) rfl (by kernel_rfl) (by kernel_rfl) (by kernel_rfl) (fun _ _ _ h => h) (Or.inl ⟨by rfl, ?hap549q18n9⟩) (by assumption) ?_
          case hap549q18n9 => (intro w hSw; (try dsimp only at hSw); go_simp; try with_reducible rfl)
          try simp only [Act.put, List.setIfInBounds_toArray, List.set_cons_zero, List.set_cons_succ]
          refine wpAnyH_ready (rs := [11]) (by kernel_rfl) (by simp) ?_
          refine AllReadyH.cons (o := ⟨_, _, _, _, _, _⟩) rfl (fun K hK => ?_) AllReadyH.nil
          obtain ⟨z0, z1, z2⟩ := tri_cells HK7.out
          have z3 : ∀ o, World.frozen? _ ⟨_, o, none⟩ = false := fun o => blk_free HK7.out
          go_simp
          generalize hw8 : World.setCell _ _ (.bool _) = w8
          have hs8 := tri_set HK7.out hw8
          have HK8 := Lib.hid hs8.1
          have hS9 := TwoC.keepB hs8.2 HIX.out L1.out L2.out hHeld
          clear hw8 hs8 z0 z1 z2 z3
          refine hK.out _ _ (by exact hS9) (fun hHeld => ?_)
          clear hK K
          try simp only [Act.put, List.setIfInBounds_toArray, List.set_cons_zero, List.set_cons_succ]
          refine wpAnyH_take (i := 12) (oi := ⟨_, _, _, _, _, _⟩) (v := ?vap549q19n12) rfl (by kernel_rfl) (by kernel_rfl) (by kernel_rfl) (fun _ _ _ h => h) (Or.inl ⟨by rfl, ?hap549q19n12⟩) (by assumption) ?_
          case hap549q19n12 => (intro w hSw; (try dsimp only at hSw); go_simp; try with_reducible rfl)
          try simp only [Act.put, List.setIfInBounds_toArray, List.set_cons_zero, List.set_cons_succ]
          refine wpAnyH_done (by kernel_rfl) ?_ _
          have HA8 := Lib.hid (HAV.out.below (show TwoC V _ _ _ _ _ _ _ from hS9).2.2.2.2.2)
          obtain ⟨g0, g1, g2⟩ := tri_cells HK8.out
          go_wp2_with (at_builtin; refine wpList_push okDomino rfl _ _ rfl HA8.out rfl (nx, ny, nd) _ rfl _ rfl rfl (by omega) ?_; intro v10 w10 HA10 HG10)
          go_roundw
          case rel => exact ⟨k + 1, _, by omega, by go_num, rfl, by rw [HMV.out]; exact HA10⟩
          case measure => simp [intOf]; omega
      case cp549q5n10 =>
        have HIX := Lib.hid (show TwoC V _ _ _ _ _ _ _ from hHeld).2.2.2.2.1
        go_simp
        generalize hw7 : World.alloc _ _ = w7
        have hb9 := (alloc_blk hw7).2
        have HK7 := Lib.hid (alloc_blk hw7).1
        first
          | have hS9 := TwoC.keepB hb9 HIX.out L1.out L2.out hHeld
          | (have hS9 := TwoC.drew (TwoC.keepB hb9 (Nat.le_refl _) L1.out L2.out HS0.out); replace HK7 := Lib.hid (show w7.drew.heap[_]? = _ from HK7.out))
        clear hw7
        refine hK.out _ _ (by exact hS9) (fun hHeld => ?_)
        clear hK K
        try simp only [Act.put, List.setIfInBounds_toArray, List.set_cons_zero, List.set_cons_succ]
        refine wpAnyH_ready (rs := [2]) (by kernel_rfl) (by simp) ?_
        refine AllReadyH.cons (o := ⟨_, _, _, _, _, _⟩) rfl (fun K hK => ?_) AllReadyH.nil
        go_simp
        go_at_call 18
        refine (turn_one s x y (by omega) hxb hyb n0 _ (blk_below HN0.out (show TwoC V _ _ _ _ _ _ _ from hHeld).2.2.2.2.2)).mono ?_
        rintro e w9 ⟨rfl, hb9⟩
        have hS9 := TwoC.keep hb9 L1.out L2.out hHeld
        try replace HK7 := Lib.hid (blk_below HK7.out hb9)
        refine hK.out _ _ (by exact hS9) (fun hHeld => ?_)
        clear hK K
        try simp only [Act.put, List.setIfInBounds_toArray, List.set_cons_zero, List.set_cons_succ]
        refine wpAnyH_ready (rs := [5]) (by kernel_rfl) (by simp) ?_
        refine AllReadyH.cons (o := ⟨_, _, _, _, _, _⟩) rfl (fun K hK => ?_) AllReadyH.nil
        go_simp
        go_at_call 18
        refine (turn_one s x2 y2 (by omega) hxb2 hyb2 n0 _ (blk_below HN0.out (show TwoC V _ _ _ _ _ _ _ from hHeld).2.2.2.2.2)).mono ?_
        rintro e w9 ⟨rfl, hb9⟩
        have hS9 := TwoC.keep hb9 L1.out L2.out hHeld
        try replace HK7 := Lib.hid (blk_below HK7.out hb9)
        refine hK.out _ _ (by exact hS9) (fun hHeld => ?_)
        clear hK K
        try simp only [Act.put, List.setIfInBounds_toArray, List.set_cons_zero, List.set_cons_succ]
        refine wpAnyH_ready (rs := [6]) (by kernel_rfl) (by simp) ?_
        refine AllReadyH.cons (o := ⟨_, _, _, _, _, _⟩) rfl (fun K hK => ?_) AllReadyH.nil
        go_simp
        go_at_call 36
        refine (HOV.out _).mono ?_
        rintro e w9 ⟨rfl, hb9⟩
        have hS9 := TwoC.keep hb9 L1.out L2.out hHeld
        try replace HK7 := Lib.hid (blk_below HK7.out hb9)
        refine hK.out _ _ (by exact hS9) (fun hHeld => ?_)
        clear hK K
        try simp only [Act.put, List.setIfInBounds_toArray, List.set_cons_zero, List.set_cons_succ]
        refine wpAnyH_take (i := 7) (oi := ⟨_, _, _, _, _, _⟩) (v := ?vap549q20n7) rfl (by kernel_rfl) (by kernel_rfl) (by kernel_rfl) (fun _ _ _ h => h) (Or.inl ⟨by rfl, ?hap549q20n7⟩) (by assumption) ?_
        case hap549q20n7 => (intro w hSw; (try dsimp only at hSw); go_simp; try with_reducible rfl)
        try simp only [Act.put, List.setIfInBounds_toArray, List.set_cons_zero, List.set_cons_succ]
        refine wpAnyH_take (i := 8) (oi := ⟨_, _, _, _, _, _⟩) (v := ?vap549q21n8) rfl (by kernel_rfl) (by kernel_rfl) (by kernel_rfl) (fun _ _ _ h => h) (Or.inl ⟨by rfl, ?hap549q21n8⟩) (by assumption) ?_
        case hap549q21n8 => (intro w hSw; (try dsimp only at hSw); go_simp; try with_reducible rfl)
        try simp only [Act.put, List.setIfInBounds_toArray, List.set_cons_zero, List.set_cons_succ]
        refine wpAnyH_take (i := 9) (oi := ⟨_, _, _, _, _, _⟩) (v := ?vap549q22n9) rfl (by kernel_rfl) (by kernel_rfl) (by kernel_rfl) (fun _ _ _ h => h) (Or.inl ⟨by rfl, ?hap549q22n9⟩) (by assumption) ?_
        case hap549q22n9 => (intro w hSw; (try dsimp only at hSw); go_simp; try with_reducible rfl)
        try simp only [Act.put, List.setIfInBounds_toArray, List.set_cons_zero, List.set_cons_succ]
        refine wpAnyH_ready (rs := [11]) (by kernel_rfl) (by simp) ?_
        refine AllReadyH.cons (o := ⟨_, _, _, _, _, _⟩) rfl (fun K hK => ?_) AllReadyH.nil
        obtain ⟨z0, z1, z2⟩ := tri_cells HK7.out
        have z3 : ∀ o, World.frozen? _ ⟨_, o, none⟩ = false := fun o => blk_free HK7.out
        go_simp
        generalize hw8 : World.setCell _ _ (.bool _) = w8
        have hs8 := tri_set HK7.out hw8
        have HK8 := Lib.hid hs8.1
        have hS9 := TwoC.keepB hs8.2 HIX.out L1.out L2.out hHeld
        clear hw8 hs8 z0 z1 z2 z3
        refine hK.out _ _ (by exact hS9) (fun hHeld => ?_)
        clear hK K
        try simp only [Act.put, List.setIfInBounds_toArray, List.set_cons_zero, List.set_cons_succ]
        refine wpAnyH_take (i := 12) (oi := ⟨_, _, _, _, _, _⟩) (v := ?vap549q23n12) rfl (by kernel_rfl) (by kernel_rfl) (by kernel_rfl) (fun _ _ _ h => h) (Or.inl ⟨by rfl, ?hap549q23n12⟩) (by assumption) ?_
        case hap549q23n12 => (intro w hSw; (try dsimp only at hSw); go_simp; try with_reducible rfl)
        try simp only [Act.put, List.setIfInBounds_toArray, List.set_cons_zero, List.set_cons_succ]
        refine wpAnyH_done (by kernel_rfl) ?_ _
        have HA8 := Lib.hid (HAV.out.below (show TwoC V _ _ _ _ _ _ _ from hS9).2.2.2.2.2)
        obtain ⟨g0, g1, g2⟩ := tri_cells HK8.out
        go_wp2_with (at_builtin; refine wpList_push okDomino rfl _ _ rfl HA8.out rfl (nx, ny, nd) _ rfl _ rfl rfl (by omega) ?_; intro v10 w10 HA10 HG10)
        go_roundw
        case rel => exact ⟨k + 1, _, by omega, by go_num, rfl, by rw [HMV.out]; exact HA10⟩
        case measure => simp [intOf]; omega
    · obtain rfl : k = ls.length := by omega
      have ht : decide ((ls.length : Int) < (ls.length : Int)) = false := by simp
      have HRD := Lib.hid (HA.out.1.rd okDomino)
      have HML := Lib.hid hml
      clear hml
      have HBA := Lib.hid HA.out.2.1
      go_wp2_with fail
      refine (SortDominoes_any _ (mv ls.length) _ _ HRD.out (Nat.le_refl _)).mono ?_
      rintro e w9 ⟨u9, rfl, ho9, hb9⟩
      have ho9 : OwnF elDomino w9 wr.heap.size u9 (sortI (mv ls.length) ls.length) := by rw [HML.out] at ho9; exact ho9
      have HO9 := Lib.hid (ho9.mono HBA.out.size)
      have HB9 := Lib.hid (HBA.out.trans (hb9.mono HBA.out.size))
      clear ho9 hb9
      go_wp2_with fail
      exact bodyPost_ret (v := .tuple #[u9, .bool true]) (by simp [results, Tryz.results17, go_sem]) rfl ⟨_, rfl, HO9.out, HB9.out⟩
end Go.Proofs.YtehnbalbpfmijaaGreatDoor
