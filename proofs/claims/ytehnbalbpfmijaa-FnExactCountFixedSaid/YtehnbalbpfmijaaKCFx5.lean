/- What the claim's walk rests on: parts ElsP, AppendF, EachL. -/
import Derived.Test.YtehnbalbpfmijaaOwnMKCFx
import Derived.Test.YtehnbalbpfmijaaKCFx2
import Derived.Test.YtehnbalbpfmijaaKCFx1
import Derived.Test.YtehnbalbpfmijaaKCFx3
import Derived.Deep.RegionHeld3
import Derived.Deep.RegionLaw
import Derived.StillTailTactics
import Derived.Laws.EntriesVeiled
namespace Go.Proofs.Ytehnbalbpfmijaa
open Go.RowKit
set_option linter.unusedVariables false

section
variable {α : Type} {K : Kd α}
/-- The elements: each in an interval of its own, none with a block of O. -/
def ElsP (K : Kd α) (w : World) (lo hi : Nat) (O : Nat → Prop) (ss : List Sl) (xs : List α) : Prop :=
  ss.length = xs.length ∧ ∃ a b : Nat → Nat, (∀ i s x, ss[i]? = some s → xs[i]? = some x → lo ≤ a i ∧ b i ≤ hi ∧ K.P w (a i) (b i) (slV s) x ∧ ∀ g, O g → g < a i ∨ b i ≤ g) ∧ ∀ i j, i < j → j < xs.length → b i ≤ a j
theorem ElsP.nil (w : World) (lo hi : Nat) (O : Nat → Prop) : ElsP K w lo hi O [] [] := ⟨rfl, fun _ => 0, fun _ => 0, fun i s x h => by simp at h, fun i j _ h => by simp at h⟩
theorem ElsP.kept {w w' : World} {lo hi : Nat} {O : Nat → Prop} {ss : List Sl} {xs : List α} (h : ElsP K w lo hi O ss xs) (hs : w.heap.size ≤ w'.heap.size) (hk : ∀ k, lo ≤ k → k < hi → ¬ O k → w'.heap[k]? = w.heap[k]?) : ElsP K w' lo hi O ss xs := by
  obtain ⟨h1, a, b, h2, h3⟩ := h
  refine ⟨h1, a, b, fun i s x hi hx => ?_, h3⟩
  obtain ⟨p1, p2, p3, p4⟩ := h2 i s x hi hx
  exact ⟨p1, p2, K.keep p3 hs fun k q1 q2 => hk k (by omega) (by omega) (fun e => by have := p4 k e; omega), p4⟩
theorem ElsP.excl {w : World} {lo hi : Nat} {O O' : Nat → Prop} {ss : List Sl} {xs : List α} (h : ElsP K w lo hi O ss xs) (ho : ∀ g, O' g → O g ∨ hi ≤ g ∨ g < lo) : ElsP K w lo hi O' ss xs := by
  obtain ⟨h1, a, b, h2, h3⟩ := h
  refine ⟨h1, a, b, fun i s x hi hx => ?_, h3⟩
  obtain ⟨p1, p2, p3, p4⟩ := h2 i s x hi hx
  refine ⟨p1, p2, p3, fun g hg => ?_⟩
  rcases ho g hg with h | h | h
  · exact p4 g h
  · exact .inr (by omega)
  · exact .inl (by omega)
theorem ElsP.els {w : World} {lo hi : Nat} {O : Nat → Prop} {o : Option Nat} {ss : List Sl} {xs : List α} (h : ElsP K w lo hi O ss xs) (ho : ∀ g, o = some g → O g) : Els K w lo hi o ss xs := by
  obtain ⟨h1, a, b, h2, h3⟩ := h
  refine ⟨h1, a, b, fun i s x hi hx => ?_, h3⟩
  obtain ⟨p1, p2, p3, p4⟩ := h2 i s x hi hx
  exact ⟨p1, p2, p3, fun g hg => p4 g (ho g hg)⟩
theorem ElsP.push {w : World} {lo hi hi' a b : Nat} {O : Nat → Prop} {ss : List Sl} {xs : List α} {s : Sl} {x : α} (h : ElsP K w lo hi O ss xs) (hx : K.P w a b (slV s) x) (hl : lo ≤ a) (ha : hi ≤ a) (hb : b ≤ hi') (hh : hi ≤ hi') (hO : ∀ g, O g → g < a ∨ b ≤ g) : ElsP K w lo hi' O (ss ++ [s]) (xs ++ [x]) := by
  obtain ⟨e1, fa, fb, e2, e3⟩ := h
  refine ⟨by simp [e1], fun i => if i < xs.length then fa i else a, fun i => if i < xs.length then fb i else b, fun i s' x' h1 h2 => ?_, fun i j hij hj => ?_⟩
  · by_cases e : i < xs.length
    · rw [List.getElem?_append_left (by omega)] at h1
      rw [List.getElem?_append_left e] at h2
      simp only [e, if_true]
      obtain ⟨p1, p2, p3, p4⟩ := e2 i s' x' h1 h2
      exact ⟨p1, by omega, p3, p4⟩
    · rw [List.getElem?_append_right (by omega)] at h1 h2
      by_cases e4 : i = xs.length
      · subst e4
        rw [e1] at h1
        simp at h1 h2
        subst h1 h2
        simp only [Nat.lt_irrefl, if_false]
        exact ⟨hl, hb, hx, hO⟩
      · rw [List.getElem?_eq_none (by simp; omega)] at h2; simp at h2
  · simp only [List.length_append, List.length_singleton] at hj
    simp only [show i < xs.length by omega, if_true]
    by_cases e : j < xs.length
    · simp only [e, if_true]; exact e3 i j hij e
    · simp only [e, if_false]
      obtain ⟨s', hs'⟩ : ∃ s', ss[i]? = some s' := ⟨_, List.getElem?_eq_getElem (by omega)⟩
      obtain ⟨x', hx'⟩ : ∃ x', xs[i]? = some x' := ⟨_, List.getElem?_eq_getElem (by omega)⟩
      have := (e2 i s' x' hs' hx').2.1
      omega
end

section
variable {α : Type} {E : El α}
theorem OwnF.same {w w' : World} {lo : Nat} {v : Value} {xs : List α} (h : OwnF E w lo v xs) (hk : ∀ k, v.ownBlock = some k → w'.heap[k]? = w.heap[k]?) : OwnF E w' lo v xs := by
  refine ⟨h.1, ?_⟩
  rcases h.2 with hn | ⟨g, cap, cur, rfl, hb, hgg, rest⟩
  · exact .inl hn
  · exact .inr ⟨g, cap, cur, rfl, hb, (hk g rfl).trans hgg, rest⟩
/-- The last element is cut off. -/
theorem OwnF.pop (hE : ∀ x, (E.f x).length = E.s) {w : World} {lo : Nat} {v : Value} {xs : List α} {x : α} (h : OwnF E w lo v (xs ++ [x])) :
    ∃ g c, v = .slice (some ⟨g, 0, none⟩) (xs.length + 1) c ∧ xs.length + 1 ≤ c ∧ c ≤ maxLen ∧ OwnF E w lo (.slice (some ⟨g, 0, none⟩) xs.length c) xs := by
  rcases h.2 with ⟨_, h0⟩ | ⟨g, cap, cur, hv, hb, hgg, h1, h2, h3, h4⟩
  · simp at h0
  · simp only [List.length_append, List.length_singleton] at hv h1 h4
    refine ⟨g, cap, hv, h1, h2, flat_length hE xs, .inr ⟨g, cap, cur, rfl, hb, hgg, by omega, h2, h3, ?_⟩⟩
    rw [List.flatMap_append] at h4
    have h5 := congrArg (List.take (xs.length * E.s)) h4
    rw [List.take_take, Nat.min_eq_left (Nat.mul_le_mul_right _ (by omega)), List.take_append_of_le_length (by rw [flat_length hE]; exact Nat.le_refl _), List.take_of_length_le (l := xs.flatMap E.f) (by rw [flat_length hE]; exact Nat.le_refl _)] at h5
    exact h5
theorem OwnF.rdFull {P : Program} (hE : E.Ok P) {w : World} {lo : Nat} {v : Value} {xs : List α} (h : OwnF E w lo v xs) : RdF E w w.heap.size v xs := h.rd hE

/-- Where the list and the row lie. -/
structure TLay where
  po : Nat
  pw : Nat
  o0 : Nat
  m0 : Nat
  lo : Nat
  lo2 : Nat
structure TLay.Ok (L : TLay) : Prop where
  o : L.lo ≤ L.o0
  m : L.lo ≤ L.m0
  o2 : L.o0 < L.lo2
  m2 : L.m0 < L.lo2
  p2 : L.po < L.lo2
  w2 : L.pw < L.lo2
  om : L.o0 ≠ L.m0
  pw_ : L.po ≠ L.pw
  po0 : L.po ≠ L.o0
  pm0 : L.po ≠ L.m0
  wo0 : L.pw ≠ L.o0
  wm0 : L.pw ≠ L.m0
  lp : L.lo ≤ L.po
  lw : L.lo ≤ L.pw
/-- All other blocks below stay. -/
def Fix (L : TLay) (w w' : World) : Prop := ∀ k, k < L.lo2 → k ≠ L.po → k ≠ L.pw → k ≠ L.o0 → k ≠ L.m0 → w'.heap[k]? = w.heap[k]?
theorem Fix.refl (L : TLay) (w : World) : Fix L w w := fun _ _ _ _ _ _ => rfl
theorem Fix.trans {L : TLay} {a b c : World} (h : Fix L a b) (h' : Fix L b c) : Fix L a c := fun k h1 h2 h3 h4 h5 => (h' k h1 h2 h3 h4 h5).trans (h k h1 h2 h3 h4 h5)
theorem Fix.below {L : TLay} {a b : World} (h : Below a.heap.size a b) (hl : L.lo2 ≤ a.heap.size) : Fix L a b := fun k h1 _ _ _ _ => h.block k (by omega)

structure TS (E : El α) (ES : El Sl) (w0 : World) (L : TLay) (wr : World) (vo vw : Value) (ho : Nat) (ss : List Sl) (hd : List α) (os : List (List α)) : Prop where
  co : wr.heap[L.po]? = some (.cells #[vo] ES.t (0, 0))
  cw : wr.heap[L.pw]? = some (.cells #[vw] E.t (0, 0))
  ao : Acc ES w0 L.lo wr vo ss
  aw : Acc E w0 L.lo wr vw hd
  el : ElsP (kdF E) wr L.lo2 ho (fun g => vo.ownBlock = some g ∨ vw.ownBlock = some g) ss os
  lh : L.lo2 ≤ ho
  hs : ho ≤ wr.heap.size
  bo : ∀ g, vo.ownBlock = some g → g = L.o0 ∨ L.lo2 ≤ g
  bw : ∀ g, vw.ownBlock = some g → g = L.m0 ∨ L.lo2 ≤ g
  ne : ∀ g, vo.ownBlock = some g → vw.ownBlock ≠ some g
def TSt (E : El α) (ES : El Sl) (w0 : World) (L : TLay) (wr : World) (hd : List α) (os : List (List α)) : Prop := ∃ vo vw ho ss, TS E ES w0 L wr vo vw ho ss hd os

variable {ES : El Sl} {w0 wr w1 w2 : World} {L : TLay} {vo vw v' : Value} {ho : Nat} {ss : List Sl} {hd : List α} {os : List (List α)} {x : α}
theorem TS.below (h : TS E ES w0 L wr vo vw ho ss hd os) (hb : Below wr.heap.size wr w1) : TS E ES w0 L w1 vo vw ho ss hd os :=
  ⟨(hb.block _ (lt_of_block h.co)).trans h.co, (hb.block _ (lt_of_block h.cw)).trans h.cw, h.ao.below hb, h.aw.below hb, h.el.kept hb.size fun k _ hk _ => hb.block k (by have := h.hs; omega), h.lh, Nat.le_trans h.hs hb.size, h.bo, h.bw, h.ne⟩
theorem TS.fix (h : TS E ES w0 L wr vo vw ho ss hd os) (hb : Below wr.heap.size wr w1) : Fix L wr w1 := Fix.below hb (Nat.le_trans h.lh h.hs)
theorem TS.big (h : TS E ES w0 L wr vo vw ho ss hd os) : Below w0.heap.size w0 wr := h.ao.2.1
theorem TS.cello (h : TS E ES w0 L wr vo vw ho ss hd os) : wr.cell? ⟨L.po, 0, none⟩ = some vo := cell_of_one h.co
theorem TS.cellw (h : TS E ES w0 L wr vo vw ho ss hd os) : wr.cell? ⟨L.pw, 0, none⟩ = some vw := cell_of_one h.cw
theorem TS.lenw {P : Program} (hE : E.Ok P) (h : TS E ES w0 L wr vo vw ho ss hd os) : ∃ A c, vw = .slice A hd.length c ∧ hd.length ≤ c ∧ c ≤ maxLen := by
  obtain ⟨A, c, hv, h1, h2, _⟩ := h.aw.1.rd hE; exact ⟨A, c, hv, h1, h2⟩
theorem TS.leno {P : Program} (hE : ES.Ok P) (h : TS E ES w0 L wr vo vw ho ss hd os) : ∃ A c, vo = .slice A ss.length c ∧ ss.length ≤ c ∧ c ≤ maxLen := by
  obtain ⟨A, c, hv, h1, h2, _⟩ := h.ao.1.rd hE; exact ⟨A, c, hv, h1, h2⟩
/-- The row grows by one. -/
theorem TS.pushOwn (hL : L.Ok) (h : TS E ES w0 L wr vo vw ho ss hd os) (HA : Acc E w0 L.lo w2 v' (hd ++ [x])) (HG : Grew wr w2 vw v') :
    TS E ES w0 L (w2.setCell ⟨L.pw, 0, none⟩ v') vo v' ho ss (hd ++ [x]) os ∧ Fix L wr (w2.setCell ⟨L.pw, 0, none⟩ v') ∧ (∃ u, w2.heap[L.pw]? = some (.cells #[u] E.t (0, 0))) := by
  obtain ⟨g1, g, g2, g3, g4⟩ := HG
  have l1 := hL.w2; have l2 := hL.p2; have l3 := hL.o2; have l4 := hL.m2; have l5 := hL.pw_; have l6 := hL.wo0; have l7 := hL.wm0; have l8 := hL.po0; have l9 := hL.pm0; have l10 := hL.om; have l11 := hL.lw
  have hlo := Nat.le_trans h.lh h.hs
  have hsame : ∀ k, k < wr.heap.size → vw.ownBlock ≠ some k → k ≠ L.pw → (w2.setCell ⟨L.pw, 0, none⟩ v').heap[k]? = wr.heap[k]? := fun k k1 k2 k3 =>
    (Below.heap_setCell _ _ _ _ (by show k ≠ L.pw; exact k3)).trans (g1.block k k1 (fun e => k2 e.symm))
  have hpw : w2.heap[L.pw]? = some (.cells #[vw] E.t (0, 0)) := (g1.block L.pw (by omega) (fun e => by have := h.bw L.pw e.symm; omega)).trans h.cw
  have hgb : g = L.m0 ∨ L.lo2 ≤ g := by
    rcases g3 with g3 | g3
    · exact h.bw g g3
    · exact .inr (by omega)
  have hw0 : w0.heap.size ≤ L.pw := Nat.le_trans h.aw.2.2.1 l11
  refine ⟨⟨?_, ?_, ⟨h.ao.1.same fun k hk => ?_, HA.2.1.setCell hw0 _, h.ao.2.2.1, by simpa using HA.2.2.2⟩, ⟨HA.1.same fun k hk => Below.heap_setCell _ _ _ _ ?_, HA.2.1.setCell hw0 _, HA.2.2.1, by simpa using HA.2.2.2⟩, ?_, h.lh, ?_, h.bo, ?_, ?_⟩, ?_, ⟨_, hpw⟩⟩
  · exact (hsame L.po (by omega) (fun e => by have := h.bw _ e; omega) l5).trans h.co
  · exact (blk_setCell hpw _).trans (by simp)
  · exact hsame k ((h.ao.1.lt k hk).2) (h.ne k hk) (by have := h.bo k hk; omega)
  · rw [g2] at hk; obtain rfl := Option.some.inj hk; show g ≠ L.pw; omega
  · refine (h.el.kept (w' := w2.setCell ⟨L.pw, 0, none⟩ v') (by simpa using g1.size) fun k k1 k2 k3 => hsame k (by have := h.hs; omega) (fun e => k3 (.inr e)) (by omega)).excl fun k hk => ?_
    rcases hk with hk | hk
    · exact .inl (.inl hk)
    · rw [g2] at hk
      obtain rfl := Option.some.inj hk
      rcases g3 with g3 | g3
      · exact .inl (.inr g3)
      · exact .inr (.inl (by have := h.hs; omega))
  · simpa using Nat.le_trans h.hs g1.size
  · intro k hk; rw [g2] at hk; obtain rfl := Option.some.inj hk; exact hgb
  · intro k hk e
    rw [g2] at e
    obtain rfl := Option.some.inj e
    rcases g3 with g3 | g3
    · exact h.ne g hk g3
    · have := (h.ao.1.lt g hk).2; omega
  · intro k k1 k2 k3 k4 k5
    exact hsame k (by omega) (fun e => by have := h.bw k e; omega) k3
/-- The row's last element is cut off. -/
theorem TS.popOwn (hE : ∀ x, (E.f x).length = E.s) (hL : L.Ok) (h : TS E ES w0 L wr vo vw ho ss (hd ++ [x]) os) :
    ∃ g c, vw = .slice (some ⟨g, 0, none⟩) (hd.length + 1) c ∧ hd.length + 1 ≤ c ∧ c ≤ maxLen ∧
      Hid (TS E ES w0 L (wr.setCell ⟨L.pw, 0, none⟩ (.slice (some ⟨g, 0, none⟩) hd.length c)) vo (.slice (some ⟨g, 0, none⟩) hd.length c) ho ss hd os ∧ Fix L wr (wr.setCell ⟨L.pw, 0, none⟩ (.slice (some ⟨g, 0, none⟩) hd.length c))) := by
  obtain ⟨g, c, rfl, h1, h2, h3⟩ := h.aw.1.pop hE
  have l1 := hL.w2; have l2 := hL.p2; have l3 := hL.o2; have l4 := hL.m2; have l5 := hL.pw_; have l6 := hL.wo0; have l7 := hL.wm0; have l8 := hL.po0; have l9 := hL.pm0; have l10 := hL.om; have l11 := hL.lw
  have hw0 : w0.heap.size ≤ L.pw := Nat.le_trans h.aw.2.2.1 l11
  have hb := h.bw g rfl
  have hsame : ∀ k, k ≠ L.pw → (wr.setCell ⟨L.pw, 0, none⟩ (.slice (some ⟨g, 0, none⟩) hd.length c)).heap[k]? = wr.heap[k]? := fun k k3 => Below.heap_setCell _ _ _ _ k3
  refine ⟨g, c, rfl, h1, h2, ⟨?_, ?_, ⟨h.ao.1.same fun k hk => hsame k (by have := h.bo k hk; omega), h.ao.2.1.setCell hw0 _, h.ao.2.2.1, by simpa using h.ao.2.2.2⟩, ⟨h3.same fun k hk => hsame k ?_, h.aw.2.1.setCell hw0 _, h.aw.2.2.1, by simpa using h.aw.2.2.2⟩, ?_, h.lh, by simpa using h.hs, h.bo, h.bw, h.ne⟩, fun k k1 k2 k3 k4 k5 => hsame k k3⟩
  · exact (hsame _ l5).trans h.co
  · exact (blk_setCell h.cw _).trans (by simp)
  · simp only [Value.ownBlock, Option.some.injEq] at hk; subst hk; omega
  · exact h.el.kept (by simp) fun k k1 k2 k3 => hsame k (by omega)
/-- A row is added to the list. -/
theorem TS.pushOut {p : Nat} {s : Sl} {y : List α} (hL : L.Ok) (h : TS E ES w0 L wr vo vw ho ss hd os) (hp : ho ≤ p) (hpw : p ≤ wr.heap.size) (hx : OwnF E wr p (slV s) y) (hvw : ∀ g, vw.ownBlock = some g → g < p) (hvo : ∀ g, vo.ownBlock = some g → g < p)
    (HA : Acc ES w0 L.lo w2 v' (ss ++ [s])) (HG : Grew wr w2 vo v') :
    TS E ES w0 L (w2.setCell ⟨L.po, 0, none⟩ v') v' vw w2.heap.size (ss ++ [s]) hd (os ++ [y]) ∧ Fix L wr (w2.setCell ⟨L.po, 0, none⟩ v') ∧ (∃ u, w2.heap[L.po]? = some (.cells #[u] ES.t (0, 0))) := by
  obtain ⟨g1, g, g2, g3, g4⟩ := HG
  have l1 := hL.w2; have l2 := hL.p2; have l3 := hL.o2; have l4 := hL.m2; have l5 := hL.pw_; have l6 := hL.wo0; have l7 := hL.wm0; have l8 := hL.po0; have l9 := hL.pm0; have l10 := hL.om; have l11 := hL.lp
  have hlo := Nat.le_trans h.lh h.hs
  have hsz := g1.size
  have hlh := h.lh
  have hsame : ∀ k, k < wr.heap.size → vo.ownBlock ≠ some k → k ≠ L.po → (w2.setCell ⟨L.po, 0, none⟩ v').heap[k]? = wr.heap[k]? := fun k k1 k2 k3 =>
    (Below.heap_setCell _ _ _ _ (by show k ≠ L.po; exact k3)).trans (g1.block k k1 (fun e => k2 e.symm))
  have hpo : w2.heap[L.po]? = some (.cells #[vo] ES.t (0, 0)) := (g1.block L.po (by omega) (fun e => by have := h.bo L.po e.symm; omega)).trans h.co
  have hgb : g = L.o0 ∨ L.lo2 ≤ g := by
    rcases g3 with g3 | g3
    · exact h.bo g g3
    · exact .inr (by omega)
  have hw0 : w0.heap.size ≤ L.po := Nat.le_trans h.ao.2.2.1 l11
  refine ⟨⟨?_, ?_, ⟨HA.1.same fun k hk => Below.heap_setCell _ _ _ _ ?_, HA.2.1.setCell hw0 _, HA.2.2.1, by simpa using HA.2.2.2⟩, ⟨h.aw.1.same fun k hk => ?_, HA.2.1.setCell hw0 _, h.aw.2.2.1, by simpa using HA.2.2.2⟩, ?_, by omega, by simp, ?_, h.bw, ?_⟩, ?_, ⟨_, hpo⟩⟩
  · exact (blk_setCell hpo _).trans (by simp)
  · exact (hsame L.pw (by omega) (fun e => by have := h.bo _ e; omega) (Ne.symm l5)).trans h.cw
  · rw [g2] at hk; obtain rfl := Option.some.inj hk; show g ≠ L.po; omega
  · exact hsame k ((h.aw.1.lt k hk).2) (fun e => h.ne k e hk) (by have := h.bw k hk; omega)
  · have e1 := (h.el.kept (w' := w2.setCell ⟨L.po, 0, none⟩ v') (by simpa using hsz) fun k k1 k2 k3 => hsame k (by have := h.hs; omega) (fun e => k3 (.inl e)) (by omega)).excl (O' := fun g => v'.ownBlock = some g ∨ vw.ownBlock = some g) fun k hk => ?_
    · refine e1.push (a := p) (b := wr.heap.size) ⟨hx.same fun k hk => ?_, fun k hk => (hx.lt k hk).2⟩ (by omega) hp (by simpa using hsz) (by simpa using Nat.le_trans h.hs hsz) fun k hk => ?_
      · have := hx.lt k hk
        exact hsame k this.2 (fun e => by have := hvo k e; omega) (by omega)
      · rcases hk with hk | hk
        · rw [g2] at hk
          obtain rfl := Option.some.inj hk
          rcases g3 with g3 | g3
          · exact .inl (hvo g g3)
          · exact .inr g3
        · exact .inl (hvw k hk)
    · rcases hk with hk | hk
      · rw [g2] at hk
        obtain rfl := Option.some.inj hk
        rcases g3 with g3 | g3
        · exact .inl (.inl g3)
        · exact .inr (.inl (by have := h.hs; omega))
      · exact .inl (.inr hk)
  · intro k hk; rw [g2] at hk; obtain rfl := Option.some.inj hk; exact hgb
  · intro k hk e
    rw [g2] at hk
    obtain rfl := Option.some.inj hk
    rcases g3 with g3 | g3
    · exact h.ne g g3 e
    · have := (h.aw.1.lt g e).2; omega
  · intro k k1 k2 k3 k4 k5
    exact hsame k (by omega) (fun e => by have := h.bo k e; omega) k2
/-- The list alone. -/
theorem TS.nrel (h : TS E ES w0 L wr vo vw ho ss hd os) : NRel (kdF E) ES w0 L.lo L.lo2 wr ho vo os := ⟨ss, h.ao, h.el.els fun g hg => .inl hg, h.hs⟩
end
def RetN {α : Type} (K : Kd α) (E : El Sl) (w : World) (xs : List α) (e : Ending) (w' : World) : Prop := ∃ v hi, e = .returned v ∧ NRel K E w w.heap.size w.heap.size w' hi v xs
end Go.Proofs.Ytehnbalbpfmijaa

namespace Go.Proofs.Ytehnbalbpfmijaa
open Go.RowKit

section
variable {α : Type} {E : El α} {P : Program}
theorem flat_back (h : ∀ x, (E.f x).length = E.s) (hs : 0 < E.s) (xs : List α) (k : Nat) (u : Value) (hu : (xs.flatMap E.f)[k]? = some u) : ∃ x, xs[k / E.s]? = some x ∧ (E.f x)[k % E.s]? = some u := by
  have hk : k < xs.length * E.s := by rw [← flat_length h]; exact (List.getElem?_eq_some_iff.1 hu).1
  have h1 : k / E.s < xs.length := (Nat.div_lt_iff_lt_mul hs).2 hk
  refine ⟨xs[k / E.s], List.getElem?_eq_getElem h1, ?_⟩
  have h2 := flat_get h xs (k / E.s) (k % E.s) _ (List.getElem?_eq_getElem h1) (Nat.mod_lt _ hs)
  rw [Nat.mul_comm, Nat.div_add_mod] at h2
  rw [← h2]; exact hu
theorem run_append_srcF (hE : E.Ok P) (w : World) (lo : Nat) (ty : TypeId) {v u : Value} {xs ys : List α} {B : Nat} (hown : OwnF E w lo v xs) (hu : RdF E w B u ys) (hl : xs.length + ys.length ≤ 1073741824) (hbase : lo ≤ w.heap.size) :
    ∃ v' w', (Builtin.append_ #[E.t, E.t] ty #[v, u]).run P w = .ok v' w' ∧ OwnF E w' lo v' (xs ++ ys) ∧ w.grownBy w' v.ownBlock ∧ (v'.ownBlock = v.ownBlock ∨ v'.ownBlock = some w.heap.size) := by
  obtain ⟨i, hi, hzz⟩ := Option.map_eq_some_iff.1 hE.info
  simp only [Prod.mk.injEq] at hzz
  obtain ⟨hz, hsz, hby⟩ := hzz
  obtain ⟨A, c, rfl, _, _, hr⟩ := hu
  have hgo : ∀ ad, (∀ j u, (ys.flatMap E.f)[j]? = some u → w.cell? (ad.add j) = some u) → ∃ v' w', (Builtin.append_ #[E.t, E.t] ty #[v, .slice (some ad) ys.length c]).run P w = .ok v' w' ∧ OwnF E w' lo v' (xs ++ ys) ∧ w.grownBy w' v.ownBlock ∧ (v'.ownBlock = v.ownBlock ∨ v'.ownBlock = some w.heap.size) := fun ad hcells => by
    have h5 := hE.few
    have h6 : (xs.length + ys.length) * E.b ≤ 1073741824 * 1024 := Nat.mul_le_mul hl h5
    obtain ⟨v', w', hrun, h2, h3, _, h5⟩ := run_append_own_at (P := P) w lo E.t ty E.e i E.z E.s E.b hE.und hi hz hsz hby hE.zs hE.pos v xs.length (xs.flatMap E.f) hown ad ys.length c (ys.flatMap E.f) (flat_length hE.len ys) hcells (fun u hu => by
      obtain ⟨y, _, hy⟩ := List.mem_flatMap.1 hu
      exact hE.one y u hy) (by unfold maxLen; omega) (by omega) hbase
    refine ⟨v', w', hrun, ?_, h3, h5⟩
    unfold OwnF; rw [List.length_append, List.flatMap_append]; exact h2
  cases ys with
  | nil =>
    cases A with
    | none => exact ⟨v, w, run_append_nilsrc w lo E.t ty E.e i E.s hE.und hi v xs.length _ hown c, by simpa using hown, World.grownBy.refl w _, .inl rfl⟩
    | some ad => exact hgo ad (fun j u hu => by simp at hu)
  | cons y ys =>
    obtain ⟨ad, rfl, _, _⟩ := hr 0 y rfl
    refine hgo ad fun j u hu => ?_
    obtain ⟨x, h1, h2⟩ := flat_back hE.len hE.pos (y :: ys) j u hu
    obtain ⟨ad', e, _, h3⟩ := hr _ x h1
    obtain rfl := Option.some.inj e
    have := h3 _ u h2
    rwa [Nat.mul_comm, Nat.div_add_mod] at this
def GrewS (wr w' : World) (v v' : Value) : Prop := wr.grownBy w' v.ownBlock ∧ (v'.ownBlock = v.ownBlock ∨ v'.ownBlock = some wr.heap.size)
theorem acc_src {w wr w' : World} {lo : Nat} {v v' : Value} {xs zs : List α} (H : Acc E w lo wr v xs) (h2 : OwnF E w' lo v' zs) (h3 : wr.grownBy w' v.ownBlock) : Acc E w lo w' v' zs := by
  obtain ⟨h1, h4, h5, h6⟩ := H
  exact ⟨h2, h4.grown h3 h4.size fun k hk => by have := (h1.lt k hk).1; omega, h5, by have := h3.size; omega⟩
theorem wpList_pushSrcF (hE : E.Ok P) {ops : Array Oper} {rest : List Oper} {o : Oper} {a : Act} {Q : Exit → Act → World → Prop} (hgd : o.guard = none) (s x : Operand)
    (ho : o.op = .call { callee := .builtin .append, args := #[s, x], argTypes := #[E.t, E.t] }) {w wr : World} {lo : Nat} {v : Value} {xs : List α} (H : Acc E w lo wr v xs) (hs : a.eval s = v)
    (ys : List α) (B : Nat) (u : Value) (hr : RdF E wr B u ys) (hx : a.eval x = u) (hl : xs.length + ys.length ≤ 1073741824)
    (h : ∀ v' w', Hid (Acc E w lo w' v' (xs ++ ys)) → Hid (GrewS wr w' v v') → wpList P ops Q rest (a.put o.dst v') w') :
    wpList P ops Q (o :: rest) a wr := by
  refine wpList_plain hgd fun K hK => ?_
  obtain ⟨v', w', hrun, h2, h3, h4⟩ := run_append_srcF hE wr lo o.type H.1 hr hl H.2.2.2
  unfold Oper.wp execOp
  simp only [ho, resolve, invoke, builtin, Sem.run_bind, Sem.run_pure, Result.andThen_ok, List.map_toArray, List.map_cons, List.map_nil, hs, hx, hrun]
  exact hK _ _ (h v' w' (acc_src H h2 h3) ⟨h3, h4⟩)
theorem step_pushSrcF (hE : E.Ok P) {ops : Array Oper} {o : Oper} {a : Act} {K : Act → World → Prop} {Q : Exit → Act → World → Prop} {X : Prop} (hgd : o.guard = none) (s x : Operand)
    (ho : o.op = .call { callee := .builtin .append, args := #[s, x], argTypes := #[E.t, E.t] }) {w wr : World} {lo : Nat} {v : Value} {xs : List α} (H : Acc E w lo wr v xs) (hs : a.eval s = v)
    (ys : List α) (B : Nat) (u : Value) (hr : RdF E wr B u ys) (hx : a.eval x = u) (hl : xs.length + ys.length ≤ 1073741824)
    (h : ∀ v' w', Hid (Acc E w lo w' v' (xs ++ ys)) → Hid (GrewS wr w' v v') → K (a.put o.dst v') w') :
    if Region.wanted o (yielded ops a.tmps) = true then Oper.wp P o a wr K Q else X := by
  have hw : Region.wanted o (yielded ops a.tmps) = true := by unfold Region.wanted; rw [hgd]
  rw [if_pos hw]
  obtain ⟨v', w', hrun, h2, h3, h4⟩ := run_append_srcF hE wr lo o.type H.1 hr hl H.2.2.2
  unfold Oper.wp execOp
  simp only [ho, resolve, invoke, builtin, Sem.run_bind, Sem.run_pure, Result.andThen_ok, List.map_toArray, List.map_cons, List.map_nil, hs, hx, hrun]
  exact h v' w' (acc_src H h2 h3) ⟨h3, h4⟩
end
end Go.Proofs.Ytehnbalbpfmijaa

namespace Go.Proofs.Ytehnbalbpfmijaa
open Go.RowKit
set_option linter.unusedVariables false

theorem infoDomRow : (Try.prog.info? 28).map (fun i => (i.zero, i.size, i.bytes)) = some (some (.slice none 0 0), 1, 24) := by kernel_rfl
abbrev eDD : El Sl := elSl 28 110
theorem okDD : eDD.Ok Try.prog := okSl Try.underlying110 infoDomRow

/-- All tilings of s that continue hd, behind a list. -/
def lstE : Nat → Nat → List Lk → List (List Lk) → List (List Lk)
  | 0, _, _, x => x
  | d + 1, s, hd, x =>
    if s = 0 then x ++ [hd]
    else
      let x1 := if fitB s (dOf (fstN s) false) then lstE d (minN s (dM (dOf (fstN s) false))) (hd ++ [dOf (fstN s) false]) x else x
      if fitB s (dOf (fstN s) true) then lstE d (minN s (dM (dOf (fstN s) true))) (hd ++ [dOf (fstN s) true]) x1 else x1
theorem lstE_le : ∀ (d s : Nat) (hd : List Lk) (x : List (List Lk)), x.length ≤ (lstE d s hd x).length
  | 0, _, _, _ => Nat.le_refl _
  | d + 1, s, hd, x => by
    rw [lstE]
    split
    · simp
    · have h1 := lstE_le d (minN s (dM (dOf (fstN s) false))) (hd ++ [dOf (fstN s) false]) x
      dsimp only
      split
      · refine Nat.le_trans ?_ (lstE_le d _ _ _)
        split
        · exact h1
        · exact Nat.le_refl _
      · split
        · exact h1
        · exact Nat.le_refl _

abbrev cbL (n0 : Nat) : Value := .func (.func 144) #[] #[.pointer (some ⟨n0, 0, none⟩)]
def llay (n0 o0 lo n : Nat) : TLay := ⟨n0, n + 2, o0, n + 1, lo, n + 4⟩
/-- Where things lie. -/
structure LPl (n0 o0 lo n : Nat) : Prop where
  a : lo ≤ n0
  b : lo ≤ o0
  c : n0 < n
  d : o0 < n
  e : n0 ≠ o0
theorem LPl.ok {n0 o0 lo n : Nat} (h : LPl n0 o0 lo n) : (llay n0 o0 lo n).Ok := by
  obtain ⟨a, b, c, d, e⟩ := h
  constructor <;> simp only [llay] <;> omega
structure CL (w0 wr : World) (n0 o0 lo n : Nat) (os : List (List Lk)) (vo vw : Value) (hd : List Lk) : Prop where
  pl : LPl n0 o0 lo n
  cc : wr.heap[n]? = some (.cells #[cbL n0] 82 (0, 0))
  cr : wr.heap[n + 3]? = some (.cells #[reV n] 138 (0, 0))
  ts : ∃ ho ss, TS elDomino eDD w0 (llay n0 o0 lo n) wr vo vw ho ss hd os

/-- How the closure leaves the rest. -/
structure EFL (n0 n : Nat) (wr w' : World) (vo vw vo' vw' : Value) : Prop where
  k : ∀ k, k < wr.heap.size → k ≠ n0 → k ≠ n + 2 → vo.ownBlock ≠ some k → vw.ownBlock ≠ some k → w'.heap[k]? = wr.heap[k]?
  o : ∀ g, vo'.ownBlock = some g → vo.ownBlock = some g ∨ wr.heap.size ≤ g
  w : ∀ g, vw'.ownBlock = some g → vw.ownBlock = some g ∨ wr.heap.size ≤ g
  s : wr.heap.size ≤ w'.heap.size
section
variable {w0 wr w1 w2 : World} {n0 o0 lo n : Nat} {os : List (List Lk)} {vo vo1 vo2 vw vw1 vw2 v' : Value} {hd : List Lk} {y : Lk}
theorem EFL.refl : EFL n0 n wr wr vo vw vo vw := ⟨fun _ _ _ _ _ _ => rfl, fun _ h => .inl h, fun _ h => .inl h, Nat.le_refl _⟩
theorem EFL.trans (h : EFL n0 n wr w1 vo vw vo1 vw1) (h' : EFL n0 n w1 w2 vo1 vw1 vo2 vw2) : EFL n0 n wr w2 vo vw vo2 vw2 := by
  obtain ⟨a1, a2, a3, a4⟩ := h
  obtain ⟨b1, b2, b3, b4⟩ := h'
  refine ⟨fun k k1 k2 k3 k4 k5 => (b1 k (by omega) k2 k3 (fun e => ?_) (fun e => ?_)).trans (a1 k k1 k2 k3 k4 k5), fun g hg => ?_, fun g hg => ?_, by omega⟩
  · rcases a2 k e with e | e
    · exact k4 e
    · omega
  · rcases a3 k e with e | e
    · exact k5 e
    · omega
  · rcases b2 g hg with e | e
    · exact a2 g e
    · exact .inr (by omega)
  · rcases b3 g hg with e | e
    · exact a3 g e
    · exact .inr (by omega)
theorem EFL.below (h : Below wr.heap.size wr w1) : EFL n0 n wr w1 vo vw vo vw := ⟨fun k k1 _ _ _ _ => h.block k k1, fun _ h => .inl h, fun _ h => .inl h, h.size⟩
theorem EFL.cellw (u : Value) (hv : vw1.ownBlock = vw.ownBlock) : EFL n0 n wr (wr.setCell ⟨n + 2, 0, none⟩ u) vo vw vo vw1 :=
  ⟨fun k _ _ k3 _ _ => Below.heap_setCell _ _ _ _ (by show k ≠ n + 2; exact k3), fun _ h => .inl h, fun g hg => .inl (by rw [← hv]; exact hg), by simp⟩
theorem EFL.grewW (u : Value) (h : Grew wr w2 vw v') : EFL n0 n wr (w2.setCell ⟨n + 2, 0, none⟩ u) vo vw vo v' := by
  obtain ⟨g1, g, g2, g3, g4⟩ := h
  refine ⟨fun k k1 k2 k3 k4 k5 => (Below.heap_setCell _ _ _ _ (by show k ≠ n + 2; exact k3)).trans (g1.block k k1 fun e => k5 e.symm), fun _ h => .inl h, fun g' hg => ?_, by simpa using g1.size⟩
  rw [g2] at hg
  obtain rfl := Option.some.inj hg
  exact g3
theorem EFL.grewO (u : Value) (h : Grew wr w2 vo v') : EFL n0 n wr (w2.setCell ⟨n0, 0, none⟩ u) vo vw v' vw := by
  obtain ⟨g1, g, g2, g3, g4⟩ := h
  refine ⟨fun k k1 k2 k3 k4 k5 => (Below.heap_setCell _ _ _ _ (by show k ≠ n0; exact k2)).trans (g1.block k k1 fun e => k4 e.symm), fun g' hg => ?_, fun _ h => .inl h, by simpa using g1.size⟩
  rw [g2] at hg
  obtain rfl := Option.some.inj hg
  exact g3
theorem CL.env (h : CL w0 wr n0 o0 lo n os vo vw hd) (hf : EFL n0 n wr w1 vo vw vo1 vw1) : w1.heap[n]? = some (.cells #[cbL n0] 82 (0, 0)) ∧ w1.heap[n + 3]? = some (.cells #[reV n] 138 (0, 0)) := by
  obtain ⟨⟨a, b, c, d, e⟩, h1, h2, ho, ss, h3⟩ := h
  have hbo := h3.bo
  have hbw := h3.bw
  simp only [llay] at hbo hbw
  exact ⟨(hf.k _ (lt_of_block h1) (by omega) (by omega) (fun q => by have := hbo _ q; omega) (fun q => by have := hbw _ q; omega)).trans h1,
    (hf.k _ (lt_of_block h2) (by omega) (by omega) (fun q => by have := hbo _ q; omega) (fun q => by have := hbw _ q; omega)).trans h2⟩
theorem CL.below (h : CL w0 wr n0 o0 lo n os vo vw hd) (hb : Below wr.heap.size wr w1) : CL w0 w1 n0 o0 lo n os vo vw hd := by
  obtain ⟨ho, ss, h3⟩ := h.ts
  exact ⟨h.pl, (h.env (EFL.below hb)).1, (h.env (EFL.below hb)).2, ho, ss, h3.below hb⟩
theorem CL.big (h : CL w0 wr n0 o0 lo n os vo vw hd) : Below w0.heap.size w0 wr := by obtain ⟨ho, ss, h3⟩ := h.ts; exact h3.big
theorem CL.aw (h : CL w0 wr n0 o0 lo n os vo vw hd) : Acc elDomino w0 lo wr vw hd := by obtain ⟨ho, ss, h3⟩ := h.ts; exact h3.aw
theorem CL.cw (h : CL w0 wr n0 o0 lo n os vo vw hd) : wr.heap[n + 2]? = some (.cells #[vw] 28 (0, 0)) := by obtain ⟨ho, ss, h3⟩ := h.ts; exact h3.cw
theorem CL.bw (h : CL w0 wr n0 o0 lo n os vo vw hd) : ∀ g, vw.ownBlock = some g → g = n + 1 ∨ n + 4 ≤ g := by obtain ⟨ho, ss, h3⟩ := h.ts; exact h3.bw
theorem CL.bo (h : CL w0 wr n0 o0 lo n os vo vw hd) : ∀ g, vo.ownBlock = some g → g = o0 ∨ n + 4 ≤ g := by obtain ⟨ho, ss, h3⟩ := h.ts; exact h3.bo
theorem CL.lto (h : CL w0 wr n0 o0 lo n os vo vw hd) : ∀ g, vo.ownBlock = some g → g < wr.heap.size := by obtain ⟨ho, ss, h3⟩ := h.ts; exact fun g hg => (h3.ao.1.lt g hg).2
theorem CL.push (h : CL w0 wr n0 o0 lo n os vo vw hd) (HA : Acc elDomino w0 lo w2 v' (hd ++ [y])) (HG : Grew wr w2 vw v') :
    CL w0 (w2.setCell ⟨n + 2, 0, none⟩ v') n0 o0 lo n os vo v' (hd ++ [y]) ∧ (∃ u, w2.heap[n + 2]? = some (.cells #[u] 28 (0, 0))) := by
  obtain ⟨ho, ss, h3⟩ := h.ts
  obtain ⟨p1, _, p3⟩ := h3.pushOwn h.pl.ok HA HG
  obtain ⟨e1, e2⟩ := h.env (EFL.grewW (n0 := n0) (n := n) (vo := vo) v' HG)
  exact ⟨⟨h.pl, e1, e2, ho, ss, p1⟩, p3⟩
theorem CL.pop (h : CL w0 wr n0 o0 lo n os vo vw (hd ++ [y])) :
    ∃ g c, vw = .slice (some ⟨g, 0, none⟩) (hd.length + 1) c ∧ hd.length + 1 ≤ c ∧ c ≤ maxLen ∧ Hid (CL w0 (wr.setCell ⟨n + 2, 0, none⟩ (.slice (some ⟨g, 0, none⟩) hd.length c)) n0 o0 lo n os vo (.slice (some ⟨g, 0, none⟩) hd.length c) hd) := by
  obtain ⟨ho, ss, h3⟩ := h.ts
  obtain ⟨g, c, rfl, h1, h2, p1, _⟩ := h3.popOwn (fun _ => rfl) h.pl.ok
  obtain ⟨e1, e2⟩ := h.env (EFL.cellw (n0 := n0) (n := n) (vo := vo) (.slice (some ⟨g, 0, none⟩) hd.length c) (vw1 := .slice (some ⟨g, 0, none⟩) hd.length c) rfl)
  exact ⟨g, c, rfl, h1, h2, h.pl, e1, e2, ho, ss, p1⟩
end

set_option maxRecDepth 100000 in
set_option maxHeartbeats 4000000 in
theorem copyDominoes_any (v : Value) (ls : List Lk) (B : Nat) (w : World) (h : RdF elDomino w B v ls) (hB : B ≤ w.heap.size) (hl : ls.length ≤ 1048576) :
    Calls Try.prog 145 #[v] w fun e w' => ∃ u, e = .returned u ∧ OwnF elDomino w' w.heap.size u ls ∧ Below w.heap.size w w' := by
  have HR := Lib.hid h
  obtain ⟨A, c, rfl, q1, q2, _⟩ := id h
  unfold maxLen at q2
  have HACC : Hid (Acc elDomino w w.heap.size (w.alloc (.cells #[] 46)) (.slice (some ⟨w.heap.size, 0, none⟩) 0 0) []) := Acc.start w
  have HRA : Hid (RdF elDomino (w.alloc (.cells #[] 46)) B (.slice A ls.length c) ls) := h.below (((Below.refl _ _).alloc (Nat.le_refl _) _).mono hB)
  clear h
  go_enter Try.func145, Try.ntmps145
  go_wp2_with (at_builtin; refine wpList_pushSrcF okDomino rfl _ _ rfl HACC.out rfl ls _ _ HRA.out rfl (by simp; omega) ?_; intro u1 w1 HA1 HG1; rw [List.nil_append] at HA1; have HO1 := Lib.hid HA1.out.1; have HB1 := Lib.hid HA1.out.2.1; obtain ⟨A2, k2, hu2, _⟩ := HA1.out.1.rd okDomino; subst hu2)
  go_ret
  exact ⟨_, rfl, HO1.out, HB1.out⟩

/-- The callback adds a copy. -/
def BPostL (w0 wr : World) (n0 o0 lo n : Nat) (os : List (List Lk)) (vo vw : Value) (hd : List Lk) (e : Ending) (w' : World) : Prop := e = .returned (.tuple #[]) ∧ ∃ vo', CL w0 w' n0 o0 lo n (os ++ [hd]) vo' vw hd ∧ EFL n0 n wr w' vo vw vo' vw
set_option maxRecDepth 100000 in
set_option maxHeartbeats 4000000 in
theorem backl_any (w0 : World) (n0 o0 lo n : Nat) (os : List (List Lk)) (vo vw : Value) (hd : List Lk) (wr : World) (h : CL w0 wr n0 o0 lo n os vo vw hd) (hos : os.length ≤ 1000000) (hl : hd.length ≤ 1000) :
    Calls Try.prog 144 #[vw, .pointer (some ⟨n0, 0, none⟩)] wr (BPostL w0 wr n0 o0 lo n os vo vw hd) := by
  have H := Lib.hid h
  obtain ⟨pl, hcc, hcr, ho, ss, hT⟩ := h
  have HPL := Lib.hid pl
  have HT := Lib.hid hT
  obtain ⟨Ao, co, rfl, r1, r2⟩ := hT.leno okDD
  unfold maxLen at r2
  have c0 : wr.cell? ⟨n0, 0, none⟩ = some (.slice Ao ss.length co) := hT.cello
  have HS0 : Hid (n + 4 ≤ wr.heap.size) := Nat.le_trans hT.lh hT.hs
  have HSS : Hid (ss.length = os.length) := hT.el.1
  have hbd : Below wr.heap.size wr wr.drew := (Below.refl _ _).drew
  have HRD := Lib.hid ((hT.aw.1.rd okDomino).below hbd)
  have HCD := Lib.hid (copyDominoes_any _ hd _ _ HRD.out (Nat.le_refl _) (by omega))
  have HBD := Lib.hid hbd
  clear hT hcc hcr pl hbd
  go_enter Try.func144, Try.ntmps144
  go_region_law (first
    | (go_simp; go_at_call 145; refine HCD.out.mono ?_; rintro e w2 ⟨u2, rfl, ho2, hb2⟩; obtain ⟨A2, k2, hu2, _⟩ := ho2.rd okDomino; subst hu2; have HO2 := Lib.hid ho2; have HB2 := Lib.hid (HBD.out.trans hb2); have HT2 := Lib.hid (HT.out.below HB2.out); have f1 : w2.cell? ⟨n0, 0, none⟩ = some (.slice Ao ss.length co) := HT2.out.cello; have f3 : (w2.alloc (.cells #[.slice A2 hd.length k2] 28)).cell? ⟨n0, 0, none⟩ = some (.slice Ao ss.length co) := ((((Below.refl w2.heap.size w2).alloc (Nat.le_refl _) _).cell (p := ⟨n0, 0, none⟩) (by have h1 := HS0.out; have h2 := HB2.out.size; have h3 := HPL.out.c; show n0 < _; omega)).trans f1); clear ho2 hb2)
    | (refine step_push okDD (by rfl) _ _ (by rfl) HT2.out.ao (by rfl) (A2, hd.length, k2) _ (by rfl) _ (by rfl) (by rfl) (by have h1 := HSS.out; omega) ?_; intro v3 w3 HA3 HG3; obtain ⟨A3, k3, hv3, _⟩ := HA3.out.1.rd okDD; rw [show (ss ++ [((A2, hd.length, k2) : Sl)]).length = ss.length + 1 by simp] at hv3; subst hv3; have HP3 := Lib.hid (HT2.out.pushOut HPL.out.ok (p := wr.heap.size) (s := (A2, hd.length, k2)) (y := hd) HT.out.hs HB2.out.size HO2.out (fun g hg => (HT.out.aw.1.lt g hg).2) (fun g hg => (HT.out.ao.1.lt g hg).2) HA3.out HG3.out); have HE3 := Lib.hid (EFL.grewO (n0 := n0) (n := n) (vw := vw) (.slice A3 (ss.length + 1) k3) HG3.out); obtain ⟨u9, hk9⟩ := HP3.out.2.2; have hk9 : w3.heap[n0]? = some (.cells #[u9] 110 (0, 0)) := hk9; have ck := cell_of_one hk9; have fk := free_of_one hk9; clear hk9))
  all_goals
    go_wp2_with fail
    go_end0
    refine ⟨rfl, .slice A3 (ss.length + 1) k3, ?_, (EFL.below HB2.out).trans HE3.out⟩
    obtain ⟨e1, e2⟩ := H.out.env ((EFL.below HB2.out).trans HE3.out)
    exact ⟨HPL.out, e1, e2, _, _, HP3.out.1⟩

def EPostL (w0 wr : World) (n0 o0 lo n : Nat) (os : List (List Lk)) (vo vw : Value) (hd : List Lk) (e : Ending) (w' : World) : Prop := e = .returned (.tuple #[]) ∧ ∃ vo' vw', CL w0 w' n0 o0 lo n os vo' vw' hd ∧ EFL n0 n wr w' vo vw vo' vw'
/-- One call of each's closure. -/
def EachAtL (w0 : World) (n0 o0 lo n d s : Nat) (hd : List Lk) : Prop := ∀ (wr : World) (x : List (List Lk)) (vo vw : Value), CL w0 wr n0 o0 lo n x vo vw hd → (lstE d s hd x).length ≤ 1000000 →
  Calls Try.prog 127 #[.int .u64 (s : Int), .pointer (some ⟨n, 0, none⟩), .pointer (some ⟨n + 2, 0, none⟩), .pointer (some ⟨n + 3, 0, none⟩)] wr
    (EPostL w0 wr n0 o0 lo n (lstE d s hd x) vo vw hd)
theorem eachl_end (w0 : World) (n0 o0 lo n d : Nat) (hd : List Lk) (hl : hd.length ≤ 1000) : EachAtL w0 n0 o0 lo n (d + 1) 0 hd := by
  intro wr x vo vw h hO
  have hx := lstE_le (d + 1) 0 hd x
  have HC : Hid (lstE (d + 1) 0 hd x = x ++ [hd]) := by unfold Hid; rw [lstE, if_pos rfl]
  rw [HC.out]
  clear HC
  have HK := Lib.hid (backl_any w0 n0 o0 lo n x vo vw hd wr h (by omega) hl)
  have c0 : wr.cell? ⟨n, 0, none⟩ = some (cbL n0) := cell_of_one h.cc
  have c1 : wr.cell? ⟨n + 2, 0, none⟩ = some vw := cell_of_one h.cw
  obtain ⟨A, c, rfl, _, _, _⟩ := h.aw.1.rd okDomino
  clear h hO hx hl
  go_enter Try.func127, Try.ntmps127
  go_wp2_with fail
  refine HK.out.mono ?_
  rintro e w1 ⟨rfl, vo1, h1, h2⟩
  have H1 := Lib.hid h1
  have H2 := Lib.hid h2
  clear h1 h2
  go_wp2_with fail
  go_end0
  exact ⟨rfl, _, _, H1.out, H2.out⟩
end Go.Proofs.Ytehnbalbpfmijaa
