/- The builtin copy inside one row of the call's own: the elements from one place on go one place to the right. No function of the program is named here. -/
import Derived.Test.YtiecphhenpapoaaFlat
import Derived.Test.YtiecphhenpapoaaElsP
import Derived.Laws.CopyOwn
namespace Go.Proofs.Ytiecphhenpapoaa
open Go.RowKit
set_option linter.unusedVariables false

theorem run_copy_rowF {P : Program} (w : World) (dT sT ty elem : TypeId) (s g o dLen dCap : Nat) (a : Addr) (sLen sCap : Nat) (cur : Array Value) (t : TypeId) (cs : List Value)
    (hu : P.underlying dT = some (.slice elem)) (hs : (P.info? elem).map (·.size) = some s)
    (hg : w.heap[g]? = some (.cells cur t (0, 0))) (hn : cs.length = Nat.min sLen dLen * s)
    (hsrc : ∀ j v, cs[j]? = some v → w.cell? (a.add j) = some v) (hfit : o + cs.length ≤ cur.size) (h1 : ∀ v ∈ cs, v.oneCell' = true) :
    (Builtin.copy_ #[dT, sT] ty #[.slice (some ⟨g, o, none⟩) dLen dCap, .slice (some a) sLen sCap]).run P w =
      .ok (goInt (Nat.min sLen dLen)) (w.setRow g (cur.toList.take o ++ cs ++ cur.toList.drop (o + cs.length)).toArray) := by
  have hl := run_loadCells_list (P := P) w a cs hsrc
  have hst := run_storeCells_at P g o t cs 0 cur w hg (by simpa using hfit) h1
  cases hq : P.info? elem with
  | none => simp [hq] at hs
  | some i =>
    have hi : i.size = s := by simpa [hq] using hs
    simp [Builtin.copy_, run_underlying hu, Builtin.lenOf, Builtin.firstCells, sizeOf, typeInfo, hq, hi, ← hn, hl, hst]

section
variable {α : Type} {E : El α} {P : Program}
theorem El.Ok.size (hE : E.Ok P) : (P.info? E.e).map (·.size) = some E.s := by
  have := hE.info
  cases h : P.info? E.e with
  | none => simp [h] at this
  | some i => simp [h] at this; simp [this]
theorem flat_take (hE : ∀ x, (E.f x).length = E.s) (xs : List α) (k : Nat) (hk : k ≤ xs.length) : (xs.flatMap E.f).take (k * E.s) = (xs.take k).flatMap E.f := by
  have h : xs.flatMap E.f = (xs.take k).flatMap E.f ++ (xs.drop k).flatMap E.f := by rw [← List.flatMap_append, List.take_append_drop]
  have hl : ((xs.take k).flatMap E.f).length = k * E.s := by rw [flat_length hE, List.length_take, Nat.min_eq_left hk]
  rw [h, ← hl, List.take_left']
  rfl
theorem flat_drop (hE : ∀ x, (E.f x).length = E.s) (xs : List α) (k : Nat) (hk : k ≤ xs.length) : (xs.flatMap E.f).drop (k * E.s) = (xs.drop k).flatMap E.f := by
  have h : xs.flatMap E.f = (xs.take k).flatMap E.f ++ (xs.drop k).flatMap E.f := by rw [← List.flatMap_append, List.take_append_drop]
  have hl : ((xs.take k).flatMap E.f).length = k * E.s := by rw [flat_length hE, List.length_take, Nat.min_eq_left hk]
  rw [h, ← hl, List.drop_left']
  rfl
theorem OwnF.shift (hE : E.Ok P) {w : World} {lo g cap k dCap sCap : Nat} {xs : List α} {z : α} {dT sT ty : TypeId} (hu : P.underlying dT = some (.slice E.e))
    (h : OwnF E w lo (.slice (some ⟨g, 0, none⟩) (xs.length + 1) cap) (xs ++ [z])) (hk : k < xs.length) :
    ∃ w', (Builtin.copy_ #[dT, sT] ty #[.slice (some ⟨g, (k + 1) * E.s, none⟩) (xs.length - k) dCap, .slice (some ⟨g, k * E.s, none⟩) (xs.length + 1 - k) sCap]).run P w = .ok (goInt ((xs.length - k : Nat) : Int)) w' ∧
      OwnF E w' lo (.slice (some ⟨g, 0, none⟩) (xs.length + 1) cap) (xs.take (k + 1) ++ xs.drop k) ∧ w.grownBy w' (some g) := by
  have hrow : w.ownsRow lo E.e E.s (.slice (some ⟨g, 0, none⟩) (xs.length + 1) cap) (xs.length + 1) ((xs ++ [z]).flatMap E.f) := by
    have := h
    unfold OwnF at this
    rwa [List.length_append, List.length_singleton] at this
  rcases h.2 with ⟨_, h0⟩ | ⟨g', cap', cur, hv, hb, hgg, h1, h2, h3, h4⟩
  · simp at h0
  · obtain ⟨rfl, rfl⟩ : g = g' ∧ cap = cap' := by simp at hv; exact hv
    have hl := hE.len
    have hcl : ((xs.drop k).flatMap E.f).length = (xs.length - k) * E.s := by rw [flat_length hl, List.length_drop]
    have hmin : Nat.min (xs.length + 1 - k) (xs.length - k) = xs.length - k := Nat.min_eq_right (by omega)
    simp only [List.length_append, List.length_singleton] at h1 h4
    have hfit : (k + 1) * E.s + (xs.length - k) * E.s = (xs.length + 1) * E.s := by rw [← Nat.add_mul]; congr 1; omega
    have hcs : (xs.length + 1) * E.s ≤ cur.size := by rw [h3]; exact Nat.mul_le_mul_right _ h1
    have hrun := run_copy_rowF (P := P) w dT sT ty E.e E.s g ((k + 1) * E.s) (xs.length - k) dCap ⟨g, k * E.s, none⟩ (xs.length + 1 - k) sCap cur E.e ((xs.drop k).flatMap E.f) hu hE.size hgg (by rw [hmin, hcl])
      (fun j v hj => by
        have hj' : j < (xs.length - k) * E.s := by rw [← hcl]; exact (List.getElem?_eq_some_iff.1 hj).1
        have hle : k * E.s + (xs.length - k) * E.s = xs.length * E.s := by rw [← Nat.add_mul]; congr 1; omega
        have hlt : k * E.s + j < (xs.length + 1) * E.s := by rw [Nat.add_mul]; omega
        have hc := World.ownsRow.cellAt hrow (k * E.s + j) hlt
        rw [show (⟨g, k * E.s, none⟩ : Addr).add j = ⟨g, k * E.s + j, none⟩ by simp [Addr.add], hc, List.flatMap_append, List.getElem?_append_left (by rw [flat_length hl]; omega), ← List.getElem?_drop, flat_drop hl _ _ (by omega)]
        exact hj)
      (by rw [hcl, hfit]; exact hcs)
      (fun v hv => by obtain ⟨x, _, hx⟩ := List.mem_flatMap.1 hv; exact hE.one x v hx)
    rw [hmin] at hrun
    refine ⟨_, hrun, ⟨?_, .inr ⟨g, cap, _, by simp; omega, hb, setRow_heap w g _ _ _ _ hgg, by simp; omega, h2, ?_, ?_⟩⟩, ?_⟩
    · rw [flat_length hl]
    · rw [hcl, hfit, ← h3]
      simp only [List.size_toArray, List.length_append, List.length_take, List.length_drop, hcl, Array.length_toList]
      rw [Nat.min_eq_left (by omega)]
      omega
    · have ht : cur.toList.take ((k + 1) * E.s) = (xs.take (k + 1)).flatMap E.f := by
        have := congrArg (List.take ((k + 1) * E.s)) h4
        rw [List.take_take, Nat.min_eq_left (Nat.mul_le_mul_right _ (by omega)), flat_take hl _ _ (by simp; omega), List.take_append_of_le_length (by omega)] at this
        exact this
      rw [ht, ← List.flatMap_append]
      have hlen : (xs.take (k + 1) ++ xs.drop k).length = xs.length + 1 := by simp; omega
      rw [hlen]
      simp only []
      rw [List.take_append_of_le_length (by rw [flat_length hl, hlen]; exact Nat.le_refl _), List.take_of_length_le (by rw [flat_length hl, hlen]; exact Nat.le_refl _)]
    · exact ⟨rfl, rfl, rfl, by simp [World.setRow], fun j hj hne => setRow_other w g j _ (by intro e; exact hne (by rw [e]))⟩
end

theorem wpList_copyIn {α : Type} {E : El α} {P : Program} (hE : E.Ok P) {w : World} {ops : Array Oper} {rest : List Oper} {o : Oper} {a : Act} {Q : Exit → Act → World → Prop} (hgd : o.guard = none) (d s : Operand)
    (ho : o.op = .call { callee := .builtin .copy, args := #[d, s], argTypes := #[E.t, E.t] }) (g cap k m dCap sCap lo : Nat) (xs : List α) (z : α) (hm : xs.length - k = m)
    (hd : a.eval d = .slice (some ⟨g, (k + 1) * E.s, none⟩) m dCap) (hs : a.eval s = .slice (some ⟨g, k * E.s, none⟩) (xs.length + 1 - k) sCap)
    (hown : OwnF E w lo (.slice (some ⟨g, 0, none⟩) (xs.length + 1) cap) (xs ++ [z])) (hk : k < xs.length)
    (h : ∀ w', Hid (OwnF E w' lo (.slice (some ⟨g, 0, none⟩) (xs.length + 1) cap) (xs.take (k + 1) ++ xs.drop k)) → Hid (w.grownBy w' (some g)) → wpList P ops Q rest (a.put o.dst (goInt (m : Int))) w') :
    wpList P ops Q (o :: rest) a w := by
  refine wpList_plain hgd fun K hK => ?_
  obtain ⟨w', hrun, h1, h2⟩ := OwnF.shift (dT := E.t) (sT := E.t) (ty := o.type) (dCap := dCap) (sCap := sCap) hE hE.und hown hk
  rw [hm] at hrun
  unfold Oper.wp
  simp [execOp, ho, resolve, invoke, builtin, hd, hs, hrun, Result.andThen]
  exact hK _ _ (h _ h1 h2)
theorem step_copyIn {α : Type} {E : El α} {P : Program} (hE : E.Ok P) {ops : Array Oper} {o : Oper} {a : Act} {w : World} {K : Act → World → Prop} {Q : Exit → Act → World → Prop} {X : Prop} (hgd : o.guard = none) (d s : Operand)
    (ho : o.op = .call { callee := .builtin .copy, args := #[d, s], argTypes := #[E.t, E.t] }) (g cap k m dCap sCap lo : Nat) (xs : List α) (z : α) (hm : xs.length - k = m)
    (hd : a.eval d = .slice (some ⟨g, (k + 1) * E.s, none⟩) m dCap) (hs : a.eval s = .slice (some ⟨g, k * E.s, none⟩) (xs.length + 1 - k) sCap)
    (hown : OwnF E w lo (.slice (some ⟨g, 0, none⟩) (xs.length + 1) cap) (xs ++ [z])) (hk : k < xs.length)
    (h : ∀ w', Hid (OwnF E w' lo (.slice (some ⟨g, 0, none⟩) (xs.length + 1) cap) (xs.take (k + 1) ++ xs.drop k)) → Hid (w.grownBy w' (some g)) → K (a.put o.dst (goInt (m : Int))) w') :
    if Region.wanted o (yielded ops a.tmps) = true then Oper.wp P o a w K Q else X := by
  have hw : Region.wanted o (yielded ops a.tmps) = true := by simp [Region.wanted, hgd]
  rw [if_pos hw]
  obtain ⟨w', hrun, h1, h2⟩ := OwnF.shift (dT := E.t) (sT := E.t) (ty := o.type) (dCap := dCap) (sCap := sCap) hE hE.und hown hk
  rw [hm] at hrun
  unfold Oper.wp
  simp [execOp, ho, resolve, invoke, builtin, hd, hs, hrun, Result.andThen]
  exact h _ h1 h2
theorem run_copy_noneF {P : Program} (w : World) (dT sT ty elem : TypeId) (s : Nat) (d a : Option Addr) (dLen dCap sLen sCap : Nat) (hu : P.underlying dT = some (.slice elem)) (hs : (P.info? elem).map (·.size) = some s) (hn : Nat.min sLen dLen = 0) :
    (Builtin.copy_ #[dT, sT] ty #[.slice d dLen dCap, .slice a sLen sCap]).run P w = .ok (goInt 0) w := by
  cases hq : P.info? elem with
  | none => simp [hq] at hs
  | some i =>
    have hmin : min sLen dLen = 0 := hn
    cases d <;> cases a <;> simp [Builtin.copy_, run_underlying hu, Builtin.lenOf, Builtin.firstCells, sizeOf, typeInfo, hq, hmin, storeCells, loadCells, loadCellsFrom]
theorem step_copyNone {α : Type} {E : El α} {P : Program} (hE : E.Ok P) {ops : Array Oper} {o : Oper} {a : Act} {w : World} {K : Act → World → Prop} {Q : Exit → Act → World → Prop} {X : Prop} (hgd : o.guard = none) (d s : Operand)
    (ho : o.op = .call { callee := .builtin .copy, args := #[d, s], argTypes := #[E.t, E.t] }) {dp sp : Option Addr} {dLen dCap sLen sCap : Nat}
    (hd : a.eval d = .slice dp dLen dCap) (hs : a.eval s = .slice sp sLen sCap) (hn : Nat.min sLen dLen = 0) (h : K (a.put o.dst (goInt 0)) w) :
    if Region.wanted o (yielded ops a.tmps) = true then Oper.wp P o a w K Q else X := by
  have hw : Region.wanted o (yielded ops a.tmps) = true := by simp [Region.wanted, hgd]
  rw [if_pos hw]
  have hrun := run_copy_noneF (P := P) w E.t E.t o.type E.e E.s dp sp dLen dCap sLen sCap hE.und hE.size hn
  unfold Oper.wp
  simp [execOp, ho, resolve, invoke, builtin, hd, hs, hrun, Result.andThen]
  exact h
end Go.Proofs.Ytiecphhenpapoaa
