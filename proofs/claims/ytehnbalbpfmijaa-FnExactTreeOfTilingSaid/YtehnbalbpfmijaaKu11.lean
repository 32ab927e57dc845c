/- What the claim's walk rests on: parts ElsP, CopyIn, SortI, L24H, OpenC, Outw. -/
import Derived.Test.YtehnbalbpfmijaaKu3
import Derived.Test.YtehnbalbpfmijaaKu4
import Derived.Test.YtehnbalbpfmijaaKu1
import Derived.Test.YtehnbalbpfmijaaKu6
import Derived.Test.YtehnbalbpfmijaaKu7
import Derived.Laws.CopyOwn
import Derived.Deep.RegionHeld3
import Derived.Deep.RegionLaw
import Derived.Deep.DeepCutAuto
import Derived.Deep.LoopGhost
namespace Go.Proofs.Ytehnbalbpfmijaa
open Go.RowKit
set_option linter.unusedVariables false

section
variable {α : Type} {K : Kd α}
/-- The elements: each in an interval of its own, none with a block of O. -/
def ElsP (K : Kd α) (w : World) (lo hi : Nat) (O : Nat → Prop) (ss : List Sl) (xs : List α) : Prop :=
  ss.length = xs.length ∧ ∃ a b : Nat → Nat, (∀ i s x, ss[i]? = some s → xs[i]? = some x → lo ≤ a i ∧ b i ≤ hi ∧ K.P w (a i) (b i) (slV s) x ∧ ∀ g, O g → g < a i ∨ b i ≤ g) ∧ ∀ i j, i < j → j < xs.length → b i ≤ a j
theorem ElsP.nil (w : World) (lo hi : Nat) (O : Nat → Prop) : ElsP K w lo hi O [] [] := ⟨rfl, fun _ => 0, fun _ => 0, fun i s x h => by simp at h, fun i j _ h => by simp at h⟩
theorem ElsP.kept {w w' : World} {lo hi : Nat} {O : Nat → Prop} {ss : List Sl} {xs : List α} (h : ElsP K w lo hi O ss xs) (hs : w.heap.size ≤ w'.heap.size) (hk : ∀ k, lo ≤ k → k < hi → ¬ O k → w'.heap[k]? = w.heap[k]?) : ElsP K w' lo hi O ss xs := by
  obtain ⟨h1, a, b, h2, h3⟩ := h
  refine ⟨h1, a, b, fun i s x hi hx => ?_, h3⟩
  obtain ⟨p1, p2, p3, p4⟩ := h2 i s x hi hx
  exact ⟨p1, p2, K.keep p3 hs fun k q1 q2 => hk k (by omega) (by omega) (fun e => by have := p4 k e; omega), p4⟩
theorem ElsP.excl {w : World} {lo hi : Nat} {O O' : Nat → Prop} {ss : List Sl} {xs : List α} (h : ElsP K w lo hi O ss xs) (ho : ∀ g, O' g → O g ∨ hi ≤ g ∨ g < lo) : ElsP K w lo hi O' ss xs := by
  obtain ⟨h1, a, b, h2, h3⟩ := h
  refine ⟨h1, a, b, fun i s x hi hx => ?_, h3⟩
  obtain ⟨p1, p2, p3, p4⟩ := h2 i s x hi hx
  refine ⟨p1, p2, p3, fun g hg => ?_⟩
  rcases ho g hg with h | h | h
  · exact p4 g h
  · exact .inr (by omega)
  · exact .inl (by omega)
theorem ElsP.els {w : World} {lo hi : Nat} {O : Nat → Prop} {o : Option Nat} {ss : List Sl} {xs : List α} (h : ElsP K w lo hi O ss xs) (ho : ∀ g, o = some g → O g) : Els K w lo hi o ss xs := by
  obtain ⟨h1, a, b, h2, h3⟩ := h
  refine ⟨h1, a, b, fun i s x hi hx => ?_, h3⟩
  obtain ⟨p1, p2, p3, p4⟩ := h2 i s x hi hx
  exact ⟨p1, p2, p3, fun g hg => p4 g (ho g hg)⟩
theorem ElsP.push {w : World} {lo hi hi' a b : Nat} {O : Nat → Prop} {ss : List Sl} {xs : List α} {s : Sl} {x : α} (h : ElsP K w lo hi O ss xs) (hx : K.P w a b (slV s) x) (hl : lo ≤ a) (ha : hi ≤ a) (hb : b ≤ hi') (hh : hi ≤ hi') (hO : ∀ g, O g → g < a ∨ b ≤ g) : ElsP K w lo hi' O (ss ++ [s]) (xs ++ [x]) := by
  obtain ⟨e1, fa, fb, e2, e3⟩ := h
  refine ⟨by simp [e1], fun i => if i < xs.length then fa i else a, fun i => if i < xs.length then fb i else b, fun i s' x' h1 h2 => ?_, fun i j hij hj => ?_⟩
  · by_cases e : i < xs.length
    · rw [List.getElem?_append_left (by omega)] at h1
      rw [List.getElem?_append_left e] at h2
      simp only [e, if_true]
      obtain ⟨p1, p2, p3, p4⟩ := e2 i s' x' h1 h2
      exact ⟨p1, by omega, p3, p4⟩
    · rw [List.getElem?_append_right (by omega)] at h1 h2
      by_cases e4 : i = xs.length
      · subst e4
        rw [e1] at h1
        simp at h1 h2
        subst h1 h2
        simp only [Nat.lt_irrefl, if_false]
        exact ⟨hl, hb, hx, hO⟩
      · rw [List.getElem?_eq_none (by simp; omega)] at h2; simp at h2
  · simp only [List.length_append, List.length_singleton] at hj
    simp only [show i < xs.length by omega, if_true]
    by_cases e : j < xs.length
    · simp only [e, if_true]; exact e3 i j hij e
    · simp only [e, if_false]
      obtain ⟨s', hs'⟩ : ∃ s', ss[i]? = some s' := ⟨_, List.getElem?_eq_getElem (by omega)⟩
      obtain ⟨x', hx'⟩ : ∃ x', xs[i]? = some x' := ⟨_, List.getElem?_eq_getElem (by omega)⟩
      have := (e2 i s' x' hs' hx').2.1
      omega
end

section
variable {α : Type} {E : El α}
theorem OwnF.same {w w' : World} {lo : Nat} {v : Value} {xs : List α} (h : OwnF E w lo v xs) (hk : ∀ k, v.ownBlock = some k → w'.heap[k]? = w.heap[k]?) : OwnF E w' lo v xs := by
  refine ⟨h.1, ?_⟩
  rcases h.2 with hn | ⟨g, cap, cur, rfl, hb, hgg, rest⟩
  · exact .inl hn
  · exact .inr ⟨g, cap, cur, rfl, hb, (hk g rfl).trans hgg, rest⟩
/-- The last element is cut off. -/
theorem OwnF.pop (hE : ∀ x, (E.f x).length = E.s) {w : World} {lo : Nat} {v : Value} {xs : List α} {x : α} (h : OwnF E w lo v (xs ++ [x])) :
    ∃ g c, v = .slice (some ⟨g, 0, none⟩) (xs.length + 1) c ∧ xs.length + 1 ≤ c ∧ c ≤ maxLen ∧ OwnF E w lo (.slice (some ⟨g, 0, none⟩) xs.length c) xs := by
  rcases h.2 with ⟨_, h0⟩ | ⟨g, cap, cur, hv, hb, hgg, h1, h2, h3, h4⟩
  · simp at h0
  · simp only [List.length_append, List.length_singleton] at hv h1 h4
    refine ⟨g, cap, hv, h1, h2, flat_length hE xs, .inr ⟨g, cap, cur, rfl, hb, hgg, by omega, h2, h3, ?_⟩⟩
    rw [List.flatMap_append] at h4
    have h5 := congrArg (List.take (xs.length * E.s)) h4
    rw [List.take_take, Nat.min_eq_left (Nat.mul_le_mul_right _ (by omega)), List.take_append_of_le_length (by rw [flat_length hE]; exact Nat.le_refl _), List.take_of_length_le (l := xs.flatMap E.f) (by rw [flat_length hE]; exact Nat.le_refl _)] at h5
    exact h5
theorem OwnF.rdFull {P : Program} (hE : E.Ok P) {w : World} {lo : Nat} {v : Value} {xs : List α} (h : OwnF E w lo v xs) : RdF E w w.heap.size v xs := h.rd hE

/-- Where the list and the row lie. -/
structure TLay where
  po : Nat
  pw : Nat
  o0 : Nat
  m0 : Nat
  lo : Nat
  lo2 : Nat
structure TLay.Ok (L : TLay) : Prop where
  o : L.lo ≤ L.o0
  m : L.lo ≤ L.m0
  o2 : L.o0 < L.lo2
  m2 : L.m0 < L.lo2
  p2 : L.po < L.lo2
  w2 : L.pw < L.lo2
  om : L.o0 ≠ L.m0
  pw_ : L.po ≠ L.pw
  po0 : L.po ≠ L.o0
  pm0 : L.po ≠ L.m0
  wo0 : L.pw ≠ L.o0
  wm0 : L.pw ≠ L.m0
  lp : L.lo ≤ L.po
  lw : L.lo ≤ L.pw
/-- All other blocks below stay. -/
def Fix (L : TLay) (w w' : World) : Prop := ∀ k, k < L.lo2 → k ≠ L.po → k ≠ L.pw → k ≠ L.o0 → k ≠ L.m0 → w'.heap[k]? = w.heap[k]?
theorem Fix.refl (L : TLay) (w : World) : Fix L w w := fun _ _ _ _ _ _ => rfl
theorem Fix.trans {L : TLay} {a b c : World} (h : Fix L a b) (h' : Fix L b c) : Fix L a c := fun k h1 h2 h3 h4 h5 => (h' k h1 h2 h3 h4 h5).trans (h k h1 h2 h3 h4 h5)
theorem Fix.below {L : TLay} {a b : World} (h : Below a.heap.size a b) (hl : L.lo2 ≤ a.heap.size) : Fix L a b := fun k h1 _ _ _ _ => h.block k (by omega)

structure TS (E : El α) (ES : El Sl) (w0 : World) (L : TLay) (wr : World) (vo vw : Value) (ho : Nat) (ss : List Sl) (hd : List α) (os : List (List α)) : Prop where
  co : wr.heap[L.po]? = some (.cells #[vo] ES.t (0, 0))
  cw : wr.heap[L.pw]? = some (.cells #[vw] E.t (0, 0))
  ao : Acc ES w0 L.lo wr vo ss
  aw : Acc E w0 L.lo wr vw hd
  el : ElsP (kdF E) wr L.lo2 ho (fun g => vo.ownBlock = some g ∨ vw.ownBlock = some g) ss os
  lh : L.lo2 ≤ ho
  hs : ho ≤ wr.heap.size
  bo : ∀ g, vo.ownBlock = some g → g = L.o0 ∨ L.lo2 ≤ g
  bw : ∀ g, vw.ownBlock = some g → g = L.m0 ∨ L.lo2 ≤ g
  ne : ∀ g, vo.ownBlock = some g → vw.ownBlock ≠ some g
def TSt (E : El α) (ES : El Sl) (w0 : World) (L : TLay) (wr : World) (hd : List α) (os : List (List α)) : Prop := ∃ vo vw ho ss, TS E ES w0 L wr vo vw ho ss hd os

variable {ES : El Sl} {w0 wr w1 w2 : World} {L : TLay} {vo vw v' : Value} {ho : Nat} {ss : List Sl} {hd : List α} {os : List (List α)} {x : α}
theorem TS.below (h : TS E ES w0 L wr vo vw ho ss hd os) (hb : Below wr.heap.size wr w1) : TS E ES w0 L w1 vo vw ho ss hd os :=
  ⟨(hb.block _ (lt_of_block h.co)).trans h.co, (hb.block _ (lt_of_block h.cw)).trans h.cw, h.ao.below hb, h.aw.below hb, h.el.kept hb.size fun k _ hk _ => hb.block k (by have := h.hs; omega), h.lh, Nat.le_trans h.hs hb.size, h.bo, h.bw, h.ne⟩
theorem TS.fix (h : TS E ES w0 L wr vo vw ho ss hd os) (hb : Below wr.heap.size wr w1) : Fix L wr w1 := Fix.below hb (Nat.le_trans h.lh h.hs)
theorem TS.big (h : TS E ES w0 L wr vo vw ho ss hd os) : Below w0.heap.size w0 wr := h.ao.2.1
theorem TS.cello (h : TS E ES w0 L wr vo vw ho ss hd os) : wr.cell? ⟨L.po, 0, none⟩ = some vo := cell_of_one h.co
theorem TS.cellw (h : TS E ES w0 L wr vo vw ho ss hd os) : wr.cell? ⟨L.pw, 0, none⟩ = some vw := cell_of_one h.cw
theorem TS.lenw {P : Program} (hE : E.Ok P) (h : TS E ES w0 L wr vo vw ho ss hd os) : ∃ A c, vw = .slice A hd.length c ∧ hd.length ≤ c ∧ c ≤ maxLen := by
  obtain ⟨A, c, hv, h1, h2, _⟩ := h.aw.1.rd hE; exact ⟨A, c, hv, h1, h2⟩
theorem TS.leno {P : Program} (hE : ES.Ok P) (h : TS E ES w0 L wr vo vw ho ss hd os) : ∃ A c, vo = .slice A ss.length c ∧ ss.length ≤ c ∧ c ≤ maxLen := by
  obtain ⟨A, c, hv, h1, h2, _⟩ := h.ao.1.rd hE; exact ⟨A, c, hv, h1, h2⟩
/-- The row grows by one. -/
theorem TS.pushOwn (hL : L.Ok) (h : TS E ES w0 L wr vo vw ho ss hd os) (HA : Acc E w0 L.lo w2 v' (hd ++ [x])) (HG : Grew wr w2 vw v') :
    TS E ES w0 L (w2.setCell ⟨L.pw, 0, none⟩ v') vo v' ho ss (hd ++ [x]) os ∧ Fix L wr (w2.setCell ⟨L.pw, 0, none⟩ v') ∧ (∃ u, w2.heap[L.pw]? = some (.cells #[u] E.t (0, 0))) := by
  obtain ⟨g1, g, g2, g3, g4⟩ := HG
  have l1 := hL.w2; have l2 := hL.p2; have l3 := hL.o2; have l4 := hL.m2; have l5 := hL.pw_; have l6 := hL.wo0; have l7 := hL.wm0; have l8 := hL.po0; have l9 := hL.pm0; have l10 := hL.om; have l11 := hL.lw
  have hlo := Nat.le_trans h.lh h.hs
  have hsame : ∀ k, k < wr.heap.size → vw.ownBlock ≠ some k → k ≠ L.pw → (w2.setCell ⟨L.pw, 0, none⟩ v').heap[k]? = wr.heap[k]? := fun k k1 k2 k3 =>
    (Below.heap_setCell _ _ _ _ (by show k ≠ L.pw; exact k3)).trans (g1.block k k1 (fun e => k2 e.symm))
  have hpw : w2.heap[L.pw]? = some (.cells #[vw] E.t (0, 0)) := (g1.block L.pw (by omega) (fun e => by have := h.bw L.pw e.symm; omega)).trans h.cw
  have hgb : g = L.m0 ∨ L.lo2 ≤ g := by
    rcases g3 with g3 | g3
    · exact h.bw g g3
    · exact .inr (by omega)
  have hw0 : w0.heap.size ≤ L.pw := Nat.le_trans h.aw.2.2.1 l11
  refine ⟨⟨?_, ?_, ⟨h.ao.1.same fun k hk => ?_, HA.2.1.setCell hw0 _, h.ao.2.2.1, by simpa using HA.2.2.2⟩, ⟨HA.1.same fun k hk => Below.heap_setCell _ _ _ _ ?_, HA.2.1.setCell hw0 _, HA.2.2.1, by simpa using HA.2.2.2⟩, ?_, h.lh, ?_, h.bo, ?_, ?_⟩, ?_, ⟨_, hpw⟩⟩
  · exact (hsame L.po (by omega) (fun e => by have := h.bw _ e; omega) l5).trans h.co
  · exact (blk_setCell hpw _).trans (by simp)
  · exact hsame k ((h.ao.1.lt k hk).2) (h.ne k hk) (by have := h.bo k hk; omega)
  · rw [g2] at hk; obtain rfl := Option.some.inj hk; show g ≠ L.pw; omega
  · refine (h.el.kept (w' := w2.setCell ⟨L.pw, 0, none⟩ v') (by simpa using g1.size) fun k k1 k2 k3 => hsame k (by have := h.hs; omega) (fun e => k3 (.inr e)) (by omega)).excl fun k hk => ?_
    rcases hk with hk | hk
    · exact .inl (.inl hk)
    · rw [g2] at hk
      obtain rfl := Option.some.inj hk
      rcases g3 with g3 | g3
      · exact .inl (.inr g3)
      · exact .inr (.inl (by have := h.hs; omega))
  · simpa using Nat.le_trans h.hs g1.size
  · intro k hk; rw [g2] at hk; obtain rfl := Option.some.inj hk; exact hgb
  · intro k hk e
    rw [g2] at e
    obtain rfl := Option.some.inj e
    rcases g3 with g3 | g3
    · exact h.ne g hk g3
    · have := (h.ao.1.lt g hk).2; omega
  · intro k k1 k2 k3 k4 k5
    exact hsame k (by omega) (fun e => by have := h.bw k e; omega) k3
/-- The row's last element is cut off. -/
theorem TS.popOwn (hE : ∀ x, (E.f x).length = E.s) (hL : L.Ok) (h : TS E ES w0 L wr vo vw ho ss (hd ++ [x]) os) :
    ∃ g c, vw = .slice (some ⟨g, 0, none⟩) (hd.length + 1) c ∧ hd.length + 1 ≤ c ∧ c ≤ maxLen ∧
      Hid (TS E ES w0 L (wr.setCell ⟨L.pw, 0, none⟩ (.slice (some ⟨g, 0, none⟩) hd.length c)) vo (.slice (some ⟨g, 0, none⟩) hd.length c) ho ss hd os ∧ Fix L wr (wr.setCell ⟨L.pw, 0, none⟩ (.slice (some ⟨g, 0, none⟩) hd.length c))) := by
  obtain ⟨g, c, rfl, h1, h2, h3⟩ := h.aw.1.pop hE
  have l1 := hL.w2; have l2 := hL.p2; have l3 := hL.o2; have l4 := hL.m2; have l5 := hL.pw_; have l6 := hL.wo0; have l7 := hL.wm0; have l8 := hL.po0; have l9 := hL.pm0; have l10 := hL.om; have l11 := hL.lw
  have hw0 : w0.heap.size ≤ L.pw := Nat.le_trans h.aw.2.2.1 l11
  have hb := h.bw g rfl
  have hsame : ∀ k, k ≠ L.pw → (wr.setCell ⟨L.pw, 0, none⟩ (.slice (some ⟨g, 0, none⟩) hd.length c)).heap[k]? = wr.heap[k]? := fun k k3 => Below.heap_setCell _ _ _ _ k3
  refine ⟨g, c, rfl, h1, h2, ⟨?_, ?_, ⟨h.ao.1.same fun k hk => hsame k (by have := h.bo k hk; omega), h.ao.2.1.setCell hw0 _, h.ao.2.2.1, by simpa using h.ao.2.2.2⟩, ⟨h3.same fun k hk => hsame k ?_, h.aw.2.1.setCell hw0 _, h.aw.2.2.1, by simpa using h.aw.2.2.2⟩, ?_, h.lh, by simpa using h.hs, h.bo, h.bw, h.ne⟩, fun k k1 k2 k3 k4 k5 => hsame k k3⟩
  · exact (hsame _ l5).trans h.co
  · exact (blk_setCell h.cw _).trans (by simp)
  · simp only [Value.ownBlock, Option.some.injEq] at hk; subst hk; omega
  · exact h.el.kept (by simp) fun k k1 k2 k3 => hsame k (by omega)
/-- A row is added to the list. -/
theorem TS.pushOut {p : Nat} {s : Sl} {y : List α} (hL : L.Ok) (h : TS E ES w0 L wr vo vw ho ss hd os) (hp : ho ≤ p) (hpw : p ≤ wr.heap.size) (hx : OwnF E wr p (slV s) y) (hvw : ∀ g, vw.ownBlock = some g → g < p) (hvo : ∀ g, vo.ownBlock = some g → g < p)
    (HA : Acc ES w0 L.lo w2 v' (ss ++ [s])) (HG : Grew wr w2 vo v') :
    TS E ES w0 L (w2.setCell ⟨L.po, 0, none⟩ v') v' vw w2.heap.size (ss ++ [s]) hd (os ++ [y]) ∧ Fix L wr (w2.setCell ⟨L.po, 0, none⟩ v') ∧ (∃ u, w2.heap[L.po]? = some (.cells #[u] ES.t (0, 0))) := by
  obtain ⟨g1, g, g2, g3, g4⟩ := HG
  have l1 := hL.w2; have l2 := hL.p2; have l3 := hL.o2; have l4 := hL.m2; have l5 := hL.pw_; have l6 := hL.wo0; have l7 := hL.wm0; have l8 := hL.po0; have l9 := hL.pm0; have l10 := hL.om; have l11 := hL.lp
  have hlo := Nat.le_trans h.lh h.hs
  have hsz := g1.size
  have hlh := h.lh
  have hsame : ∀ k, k < wr.heap.size → vo.ownBlock ≠ some k → k ≠ L.po → (w2.setCell ⟨L.po, 0, none⟩ v').heap[k]? = wr.heap[k]? := fun k k1 k2 k3 =>
    (Below.heap_setCell _ _ _ _ (by show k ≠ L.po; exact k3)).trans (g1.block k k1 (fun e => k2 e.symm))
  have hpo : w2.heap[L.po]? = some (.cells #[vo] ES.t (0, 0)) := (g1.block L.po (by omega) (fun e => by have := h.bo L.po e.symm; omega)).trans h.co
  have hgb : g = L.o0 ∨ L.lo2 ≤ g := by
    rcases g3 with g3 | g3
    · exact h.bo g g3
    · exact .inr (by omega)
  have hw0 : w0.heap.size ≤ L.po := Nat.le_trans h.ao.2.2.1 l11
  refine ⟨⟨?_, ?_, ⟨HA.1.same fun k hk => Below.heap_setCell _ _ _ _ ?_, HA.2.1.setCell hw0 _, HA.2.2.1, by simpa using HA.2.2.2⟩, ⟨h.aw.1.same fun k hk => ?_, HA.2.1.setCell hw0 _, h.aw.2.2.1, by simpa using HA.2.2.2⟩, ?_, by omega, by simp, ?_, h.bw, ?_⟩, ?_, ⟨_, hpo⟩⟩
  · exact (blk_setCell hpo _).trans (by simp)
  · exact (hsame L.pw (by omega) (fun e => by have := h.bo _ e; omega) (Ne.symm l5)).trans h.cw
  · rw [g2] at hk; obtain rfl := Option.some.inj hk; show g ≠ L.po; omega
  · exact hsame k ((h.aw.1.lt k hk).2) (fun e => h.ne k e hk) (by have := h.bw k hk; omega)
  · have e1 := (h.el.kept (w' := w2.setCell ⟨L.po, 0, none⟩ v') (by simpa using hsz) fun k k1 k2 k3 => hsame k (by have := h.hs; omega) (fun e => k3 (.inl e)) (by omega)).excl (O' := fun g => v'.ownBlock = some g ∨ vw.ownBlock = some g) fun k hk => ?_
    · refine e1.push (a := p) (b := wr.heap.size) ⟨hx.same fun k hk => ?_, fun k hk => (hx.lt k hk).2⟩ (by omega) hp (by simpa using hsz) (by simpa using Nat.le_trans h.hs hsz) fun k hk => ?_
      · have := hx.lt k hk
        exact hsame k this.2 (fun e => by have := hvo k e; omega) (by omega)
      · rcases hk with hk | hk
        · rw [g2] at hk
          obtain rfl := Option.some.inj hk
          rcases g3 with g3 | g3
          · exact .inl (hvo g g3)
          · exact .inr g3
        · exact .inl (hvw k hk)
    · rcases hk with hk | hk
      · rw [g2] at hk
        obtain rfl := Option.some.inj hk
        rcases g3 with g3 | g3
        · exact .inl (.inl g3)
        · exact .inr (.inl (by have := h.hs; omega))
      · exact .inl (.inr hk)
  · intro k hk; rw [g2] at hk; obtain rfl := Option.some.inj hk; exact hgb
  · intro k hk e
    rw [g2] at hk
    obtain rfl := Option.some.inj hk
    rcases g3 with g3 | g3
    · exact h.ne g g3 e
    · have := (h.aw.1.lt g e).2; omega
  · intro k k1 k2 k3 k4 k5
    exact hsame k (by omega) (fun e => by have := h.bo k e; omega) k2
/-- The list alone. -/
theorem TS.nrel (h : TS E ES w0 L wr vo vw ho ss hd os) : NRel (kdF E) ES w0 L.lo L.lo2 wr ho vo os := ⟨ss, h.ao, h.el.els fun g hg => .inl hg, h.hs⟩
end
def RetN {α : Type} (K : Kd α) (E : El Sl) (w : World) (xs : List α) (e : Ending) (w' : World) : Prop := ∃ v hi, e = .returned v ∧ NRel K E w w.heap.size w.heap.size w' hi v xs
end Go.Proofs.Ytehnbalbpfmijaa

namespace Go.Proofs.Ytehnbalbpfmijaa
open Go.RowKit
set_option linter.unusedVariables false

theorem run_copy_rowF {P : Program} (w : World) (dT sT ty elem : TypeId) (s g o dLen dCap : Nat) (a : Addr) (sLen sCap : Nat) (cur : Array Value) (t : TypeId) (cs : List Value)
    (hu : P.underlying dT = some (.slice elem)) (hs : (P.info? elem).map (·.size) = some s)
    (hg : w.heap[g]? = some (.cells cur t (0, 0))) (hn : cs.length = Nat.min sLen dLen * s)
    (hsrc : ∀ j v, cs[j]? = some v → w.cell? (a.add j) = some v) (hfit : o + cs.length ≤ cur.size) (h1 : ∀ v ∈ cs, v.oneCell' = true) :
    (Builtin.copy_ #[dT, sT] ty #[.slice (some ⟨g, o, none⟩) dLen dCap, .slice (some a) sLen sCap]).run P w =
      .ok (goInt (Nat.min sLen dLen)) (w.setRow g (cur.toList.take o ++ cs ++ cur.toList.drop (o + cs.length)).toArray) := by
  have hl := run_loadCells_list (P := P) w a cs hsrc
  have hst := run_storeCells_at P g o t cs 0 cur w hg (by simpa using hfit) h1
  cases hq : P.info? elem with
  | none => simp [hq] at hs
  | some i =>
    have hi : i.size = s := by simpa [hq] using hs
    simp [Builtin.copy_, run_underlying hu, Builtin.lenOf, Builtin.firstCells, sizeOf, typeInfo, hq, hi, ← hn, hl, hst]

section
variable {α : Type} {E : El α} {P : Program}
theorem El.Ok.size (hE : E.Ok P) : (P.info? E.e).map (·.size) = some E.s := by
  have := hE.info
  cases h : P.info? E.e with
  | none => simp [h] at this
  | some i => simp [h] at this; simp [this]
theorem flat_take (hE : ∀ x, (E.f x).length = E.s) (xs : List α) (k : Nat) (hk : k ≤ xs.length) : (xs.flatMap E.f).take (k * E.s) = (xs.take k).flatMap E.f := by
  have h : xs.flatMap E.f = (xs.take k).flatMap E.f ++ (xs.drop k).flatMap E.f := by rw [← List.flatMap_append, List.take_append_drop]
  have hl : ((xs.take k).flatMap E.f).length = k * E.s := by rw [flat_length hE, List.length_take, Nat.min_eq_left hk]
  rw [h, ← hl, List.take_left']
  rfl
theorem flat_drop (hE : ∀ x, (E.f x).length = E.s) (xs : List α) (k : Nat) (hk : k ≤ xs.length) : (xs.flatMap E.f).drop (k * E.s) = (xs.drop k).flatMap E.f := by
  have h : xs.flatMap E.f = (xs.take k).flatMap E.f ++ (xs.drop k).flatMap E.f := by rw [← List.flatMap_append, List.take_append_drop]
  have hl : ((xs.take k).flatMap E.f).length = k * E.s := by rw [flat_length hE, List.length_take, Nat.min_eq_left hk]
  rw [h, ← hl, List.drop_left']
  rfl
theorem OwnF.shift (hE : E.Ok P) {w : World} {lo g cap k dCap sCap : Nat} {xs : List α} {z : α} {dT sT ty : TypeId} (hu : P.underlying dT = some (.slice E.e))
    (h : OwnF E w lo (.slice (some ⟨g, 0, none⟩) (xs.length + 1) cap) (xs ++ [z])) (hk : k < xs.length) :
    ∃ w', (Builtin.copy_ #[dT, sT] ty #[.slice (some ⟨g, (k + 1) * E.s, none⟩) (xs.length - k) dCap, .slice (some ⟨g, k * E.s, none⟩) (xs.length + 1 - k) sCap]).run P w = .ok (goInt ((xs.length - k : Nat) : Int)) w' ∧
      OwnF E w' lo (.slice (some ⟨g, 0, none⟩) (xs.length + 1) cap) (xs.take (k + 1) ++ xs.drop k) ∧ w.grownBy w' (some g) := by
  have hrow : w.ownsRow lo E.e E.s (.slice (some ⟨g, 0, none⟩) (xs.length + 1) cap) (xs.length + 1) ((xs ++ [z]).flatMap E.f) := by
    have := h
    unfold OwnF at this
    rwa [List.length_append, List.length_singleton] at this
  rcases h.2 with ⟨_, h0⟩ | ⟨g', cap', cur, hv, hb, hgg, h1, h2, h3, h4⟩
  · simp at h0
  · obtain ⟨rfl, rfl⟩ : g = g' ∧ cap = cap' := by simp at hv; exact hv
    have hl := hE.len
    have hcl : ((xs.drop k).flatMap E.f).length = (xs.length - k) * E.s := by rw [flat_length hl, List.length_drop]
    have hmin : Nat.min (xs.length + 1 - k) (xs.length - k) = xs.length - k := Nat.min_eq_right (by omega)
    simp only [List.length_append, List.length_singleton] at h1 h4
    have hfit : (k + 1) * E.s + (xs.length - k) * E.s = (xs.length + 1) * E.s := by rw [← Nat.add_mul]; congr 1; omega
    have hcs : (xs.length + 1) * E.s ≤ cur.size := by rw [h3]; exact Nat.mul_le_mul_right _ h1
    have hrun := run_copy_rowF (P := P) w dT sT ty E.e E.s g ((k + 1) * E.s) (xs.length - k) dCap ⟨g, k * E.s, none⟩ (xs.length + 1 - k) sCap cur E.e ((xs.drop k).flatMap E.f) hu hE.size hgg (by rw [hmin, hcl])
      (fun j v hj => by
        have hj' : j < (xs.length - k) * E.s := by rw [← hcl]; exact (List.getElem?_eq_some_iff.1 hj).1
        have hle : k * E.s + (xs.length - k) * E.s = xs.length * E.s := by rw [← Nat.add_mul]; congr 1; omega
        have hlt : k * E.s + j < (xs.length + 1) * E.s := by rw [Nat.add_mul]; omega
        have hc := World.ownsRow.cellAt hrow (k * E.s + j) hlt
        rw [show (⟨g, k * E.s, none⟩ : Addr).add j = ⟨g, k * E.s + j, none⟩ by simp [Addr.add], hc, List.flatMap_append, List.getElem?_append_left (by rw [flat_length hl]; omega), ← List.getElem?_drop, flat_drop hl _ _ (by omega)]
        exact hj)
      (by rw [hcl, hfit]; exact hcs)
      (fun v hv => by obtain ⟨x, _, hx⟩ := List.mem_flatMap.1 hv; exact hE.one x v hx)
    rw [hmin] at hrun
    refine ⟨_, hrun, ⟨?_, .inr ⟨g, cap, _, by simp; omega, hb, setRow_heap w g _ _ _ _ hgg, by simp; omega, h2, ?_, ?_⟩⟩, ?_⟩
    · rw [flat_length hl]
    · rw [hcl, hfit, ← h3]
      simp only [List.size_toArray, List.length_append, List.length_take, List.length_drop, hcl, Array.length_toList]
      rw [Nat.min_eq_left (by omega)]
      omega
    · have ht : cur.toList.take ((k + 1) * E.s) = (xs.take (k + 1)).flatMap E.f := by
        have := congrArg (List.take ((k + 1) * E.s)) h4
        rw [List.take_take, Nat.min_eq_left (Nat.mul_le_mul_right _ (by omega)), flat_take hl _ _ (by simp; omega), List.take_append_of_le_length (by omega)] at this
        exact this
      rw [ht, ← List.flatMap_append]
      have hlen : (xs.take (k + 1) ++ xs.drop k).length = xs.length + 1 := by simp; omega
      rw [hlen]
      simp only []
      rw [List.take_append_of_le_length (by rw [flat_length hl, hlen]; exact Nat.le_refl _), List.take_of_length_le (by rw [flat_length hl, hlen]; exact Nat.le_refl _)]
    · exact ⟨rfl, rfl, rfl, by simp [World.setRow], fun j hj hne => setRow_other w g j _ (by intro e; exact hne (by rw [e]))⟩
end

theorem wpList_copyIn {α : Type} {E : El α} {P : Program} (hE : E.Ok P) {w : World} {ops : Array Oper} {rest : List Oper} {o : Oper} {a : Act} {Q : Exit → Act → World → Prop} (hgd : o.guard = none) (d s : Operand)
    (ho : o.op = .call { callee := .builtin .copy, args := #[d, s], argTypes := #[E.t, E.t] }) (g cap k m dCap sCap lo : Nat) (xs : List α) (z : α) (hm : xs.length - k = m)
    (hd : a.eval d = .slice (some ⟨g, (k + 1) * E.s, none⟩) m dCap) (hs : a.eval s = .slice (some ⟨g, k * E.s, none⟩) (xs.length + 1 - k) sCap)
    (hown : OwnF E w lo (.slice (some ⟨g, 0, none⟩) (xs.length + 1) cap) (xs ++ [z])) (hk : k < xs.length)
    (h : ∀ w', Hid (OwnF E w' lo (.slice (some ⟨g, 0, none⟩) (xs.length + 1) cap) (xs.take (k + 1) ++ xs.drop k)) → Hid (w.grownBy w' (some g)) → wpList P ops Q rest (a.put o.dst (goInt (m : Int))) w') :
    wpList P ops Q (o :: rest) a w := by
  refine wpList_plain hgd fun K hK => ?_
  obtain ⟨w', hrun, h1, h2⟩ := OwnF.shift (dT := E.t) (sT := E.t) (ty := o.type) (dCap := dCap) (sCap := sCap) hE hE.und hown hk
  rw [hm] at hrun
  unfold Oper.wp
  simp [execOp, ho, resolve, invoke, builtin, hd, hs, hrun, Result.andThen]
  exact hK _ _ (h _ h1 h2)
theorem step_copyIn {α : Type} {E : El α} {P : Program} (hE : E.Ok P) {ops : Array Oper} {o : Oper} {a : Act} {w : World} {K : Act → World → Prop} {Q : Exit → Act → World → Prop} {X : Prop} (hgd : o.guard = none) (d s : Operand)
    (ho : o.op = .call { callee := .builtin .copy, args := #[d, s], argTypes := #[E.t, E.t] }) (g cap k m dCap sCap lo : Nat) (xs : List α) (z : α) (hm : xs.length - k = m)
    (hd : a.eval d = .slice (some ⟨g, (k + 1) * E.s, none⟩) m dCap) (hs : a.eval s = .slice (some ⟨g, k * E.s, none⟩) (xs.length + 1 - k) sCap)
    (hown : OwnF E w lo (.slice (some ⟨g, 0, none⟩) (xs.length + 1) cap) (xs ++ [z])) (hk : k < xs.length)
    (h : ∀ w', Hid (OwnF E w' lo (.slice (some ⟨g, 0, none⟩) (xs.length + 1) cap) (xs.take (k + 1) ++ xs.drop k)) → Hid (w.grownBy w' (some g)) → K (a.put o.dst (goInt (m : Int))) w') :
    if Region.wanted o (yielded ops a.tmps) = true then Oper.wp P o a w K Q else X := by
  have hw : Region.wanted o (yielded ops a.tmps) = true := by simp [Region.wanted, hgd]
  rw [if_pos hw]
  obtain ⟨w', hrun, h1, h2⟩ := OwnF.shift (dT := E.t) (sT := E.t) (ty := o.type) (dCap := dCap) (sCap := sCap) hE hE.und hown hk
  rw [hm] at hrun
  unfold Oper.wp
  simp [execOp, ho, resolve, invoke, builtin, hd, hs, hrun, Result.andThen]
  exact h _ h1 h2
theorem run_copy_noneF {P : Program} (w : World) (dT sT ty elem : TypeId) (s : Nat) (d a : Option Addr) (dLen dCap sLen sCap : Nat) (hu : P.underlying dT = some (.slice elem)) (hs : (P.info? elem).map (·.size) = some s) (hn : Nat.min sLen dLen = 0) :
    (Builtin.copy_ #[dT, sT] ty #[.slice d dLen dCap, .slice a sLen sCap]).run P w = .ok (goInt 0) w := by
  cases hq : P.info? elem with
  | none => simp [hq] at hs
  | some i =>
    have hmin : min sLen dLen = 0 := hn
    cases d <;> cases a <;> simp [Builtin.copy_, run_underlying hu, Builtin.lenOf, Builtin.firstCells, sizeOf, typeInfo, hq, hmin, storeCells, loadCells, loadCellsFrom]
theorem step_copyNone {α : Type} {E : El α} {P : Program} (hE : E.Ok P) {ops : Array Oper} {o : Oper} {a : Act} {w : World} {K : Act → World → Prop} {Q : Exit → Act → World → Prop} {X : Prop} (hgd : o.guard = none) (d s : Operand)
    (ho : o.op = .call { callee := .builtin .copy, args := #[d, s], argTypes := #[E.t, E.t] }) {dp sp : Option Addr} {dLen dCap sLen sCap : Nat}
    (hd : a.eval d = .slice dp dLen dCap) (hs : a.eval s = .slice sp sLen sCap) (hn : Nat.min sLen dLen = 0) (h : K (a.put o.dst (goInt 0)) w) :
    if Region.wanted o (yielded ops a.tmps) = true then Oper.wp P o a w K Q else X := by
  have hw : Region.wanted o (yielded ops a.tmps) = true := by simp [Region.wanted, hgd]
  rw [if_pos hw]
  have hrun := run_copy_noneF (P := P) w E.t E.t o.type E.e E.s dp sp dLen dCap sLen sCap hE.und hE.size hn
  unfold Oper.wp
  simp [execOp, ho, resolve, invoke, builtin, hd, hs, hrun, Result.andThen]
  exact h
end Go.Proofs.Ytehnbalbpfmijaa

namespace Go.Proofs.Ytehnbalbpfmijaa
open Go.RowKit
set_option linter.unusedVariables false

theorem tri_cells {w : World} {a : Nat} {x y : Int} {d : Bool} {t : TypeId} (h : w.heap[a]? = some (triO x y d t)) : w.cell? ⟨a, 0, none⟩ = some (.int .i64 x) ∧ w.cell? ⟨a, 1, none⟩ = some (.int .i64 y) ∧ w.cell? ⟨a, 2, none⟩ = some (.bool d) :=
  ⟨by rw [blk_cell h]; rfl, by rw [blk_cell h]; rfl, by rw [blk_cell h]; rfl⟩
theorem blk_grew {W6 w7 : World} {v v' : Value} {a : Nat} {o : Obj} (h : W6.heap[a]? = some o) (hG : Grew W6 w7 v v') (hob : ∀ g, v.ownBlock = some g → g < a) : w7.heap[a]? = some o ∧ ∀ g, v'.ownBlock = some g → a ≠ g := by
  obtain ⟨g1, g, g2, g3, g4⟩ := hG
  have hl := lt_of_block h
  refine ⟨(g1.block a hl fun e => by have := hob a e.symm; omega).trans h, fun k hk => ?_⟩
  rw [g2] at hk
  obtain rfl := Option.some.inj hk
  rcases g3 with g3 | g3
  · have := hob _ g3; omega
  · omega
theorem set_shift {α : Type} (ys : List α) (j : Nat) (z : α) (h : j < ys.length) : (ys.take (j + 1) ++ ys.drop j).set j z = ys.take j ++ z :: ys.drop j := by
  have e : ys.take (j + 1) = ys.take j ++ [ys[j]] := by rw [List.take_succ_eq_append_getElem h]
  have hl : (ys.take j).length = j := by simp; omega
  rw [e, List.append_assoc, List.set_append_right _ _ (by omega), hl, Nat.sub_self]
  rfl
set_option maxRecDepth 100000 in
set_option maxHeartbeats 4000000 in
theorem SortDominoes_any (v : Value) (ls : List Lk) (B : Nat) (w : World) (h : RdF elDomino w B v ls) (hB : B ≤ w.heap.size) :
    Calls Try.prog 75 #[v] w fun e w' => ∃ u, e = .returned u ∧ OwnF elDomino w' w.heap.size u (sortI ls ls.length) ∧ Below w.heap.size w w' := by
  obtain ⟨A, c, rfl, g1, g2, G3⟩ := RdT.of (E := elDomino) rfl (fun _ => rfl) h
  unfold maxLen at g2
  clear h
  have HA0 : Hid (Acc elDomino w w.heap.size (w.alloc (.cells #[] 46)) (.slice (some ⟨w.heap.size, 0, none⟩) 0 0) []) := Acc.start w
  have HSS := Lib.hid (sort_same ls)
  have HSI : Hid (∀ k, sortI ls (k + 1) = if domL (dAt ls k) then insI (dAt ls k) (sortI ls k) else sortI ls k) := fun k => rfl
  have HS0 : Hid (sortI ls 0 = []) := rfl
  obtain ⟨st, HST⟩ : ∃ st, Hid (st = sortI ls) := ⟨_, rfl⟩
  rw [← HST.out] at HSI HS0 ⊢
  have HSR : Hid (∀ k, Sorted (st k)) := fun k => by rw [HST.out]; exact (HSS.out k).2
  clear HST HSS
  go_enter Try.func75, Try.ntmps75
  go_wp2_with fail
  go_loopw [3, 10] (fun o i wr => ∃ (k : Nat) (u : Value), k ≤ ls.length ∧ i = .int .i64 k ∧ u = o ∧ Hid (Acc elDomino w w.heap.size wr u (st k))) (fun _ i _ => ls.length - (intOf i).toNat)
  case atStart => exact ⟨0, _, Nat.zero_le _, rfl, rfl, by rw [HS0.out]; exact HA0⟩
  case round =>
    obtain ⟨k, u, hk, rfl, rfl, HA⟩ := hrel
    obtain ⟨A1, ca, hv, q1, q2, _⟩ := HA.out.1.rd okDomino
    subst hv
    unfold maxLen at q2
    by_cases hlt : k < ls.length
    · have ht : decide ((k : Int) < (ls.length : Int)) = true := by simp only [decide_eq_true_eq]; omega
      obtain ⟨ad, rfl, hbl, hx, hy, hz⟩ := G3.out k hlt
      have hbl2 : (ad.add (k * 3)).block < w.heap.size := by rw [addBlock]; omega
      have hbw := HA.out.2.1
      have hx' := (hbw.cell (p := ad.add (k * 3)) hbl2).trans hx
      have hy' := (hbw.cell (p := ⟨(ad.add (k * 3)).block, (ad.add (k * 3)).off + 1, none⟩) hbl2).trans hy
      have hz' := (hbw.cell (p := ⟨(ad.add (k * 3)).block, (ad.add (k * 3)).off + 2, none⟩) hbl2).trans hz
      have HNX := Lib.hid (HSI.out k)
      have HYS := Lib.hid (HSR.out k)
      have hshort := (HSR.out k).short
      have HDA : Hid (dAt ls k = (lx ls k, ly ls k, ld ls k)) := rfl
      rw [HDA.out] at HNX
      have hk0 : (0 : Int) ≤ (k : Int) := by omega
      have hk1 : (k : Int) < (ls.length : Int) := by omega
      generalize lx ls k = x at *
      generalize ly ls k = y at *
      generalize ld ls k = d at *
      obtain ⟨ys, HYQ⟩ : ∃ ys, Hid (st k = ys) := ⟨_, rfl⟩
      rw [HYQ.out] at HA HNX HYS hshort q1 ⊢
      clear hx hy hz hbw HDA HYQ
      go_wp2_with fail
      obtain ⟨V, hV, k1, hbV⟩ := one_alloc wr (triO x y d 46)
      rw [← hV]
      obtain ⟨vn, hvn⟩ : ∃ vn, wr.heap.size = vn := ⟨_, rfl⟩
      rw [hvn] at k1 ⊢
      have HA2 := Lib.hid (HA.out.below hbV)
      have HK0 := Lib.hid k1
      have HOB : Hid (∀ g, (Value.slice A1 ys.length ca).ownBlock = some g → g < vn) := fun g hg => by rw [← hvn]; exact (HA.out.1.lt g hg).2
      clear hV k1 hbV hx' hy' hz' hvn
      refine (DominoOk_any x y d _).mono ?_
      rintro e w1 ⟨rfl, hb1⟩
      have HK1 := Lib.hid (blk_below HK0.out hb1)
      have HA3 := Lib.hid (HA2.out.below hb1)
      clear hb1
      obtain ⟨f1, f2, f3⟩ := tri_cells HK1.out
      cases hd : domB x y d
      · have HE : Hid (st (k + 1) = ys) := by unfold Hid; rw [HNX.out, if_neg (by simp [domL, hd])]
        clear HNX hd
        go_wp2_with fail
        go_roundw
        case rel => exact ⟨k + 1, _, by omega, by go_num, rfl, by rw [HE.out]; exact HA3⟩
        case measure => simp [intOf]; omega
      · have HE : Hid (st (k + 1) = insI (x, y, d) ys) := by unfold Hid; rw [HNX.out, if_pos (by simp [domL, hd])]
        have HD := Lib.hid hd
        clear HNX
        have hC2 := Lib.hid fun V => order_Z x y d V hd
        have HIN : Hid (insI (x, y, d) ys = if decide (0 < downK ys (domO x.toNat y.toNat d) ys.length) && (dAt ys (downK ys (domO x.toNat y.toNat d) ys.length - 1) == (x, y, d)) then ys else ys.take (downK ys (domO x.toNat y.toNat d) ys.length) ++ (x, y, d) :: ys.drop (downK ys (domO x.toNat y.toNat d) ys.length)) := rfl
        generalize domO x.toNat y.toNat d = o at *
        obtain ⟨q, HQ⟩ : ∃ q, Hid (downK ys o ys.length = q) := ⟨_, rfl⟩
        rw [HQ.out] at HIN
        rw [HIN.out] at HE
        clear hd HIN
        go_wp2_with fail
        go_loopw [6] (fun s wr2 => ∃ j : Nat, j ≤ ys.length ∧ s = .int .i64 j ∧ Hid (downK ys o j = q) ∧ Hid (Below w1.heap.size w1 wr2)) (fun s _ => (intOf s).toNat)
        case atStart => exact ⟨ys.length, Nat.le_refl _, rfl, HQ, Below.refl _ _⟩
        case round =>
          obtain ⟨j, hj, rfl, HJ, HB⟩ := hrel
          have HA4 := Lib.hid (HA3.out.below HB.out)
          have HK2 := Lib.hid (blk_below HK1.out HB.out)
          obtain ⟨e1, e2, e3⟩ := tri_cells HK2.out
          clear f1 f2 f3
          have hj0 : (0 : Int) ≤ (j : Int) := by omega
          have hw1 : IntKind.i64.wrap ((j : Int) + 1) = (j : Int) + 1 := IntWalk.i64_in _ (by omega)
          have hn1 : ((j : Int) + 1).toNat = j + 1 := by omega
          by_cases hjz : j = 0
          · have hq0 : q = 0 := by subst hjz; exact HJ.out.symm
            have HE0 : Hid (st (k + 1) = ys.take j ++ (x, y, d) :: ys.drop j) := by unfold Hid; rw [HE.out, hq0, hjz]; simp
            have htz : decide (0 < j) = false := by simp only [decide_eq_false_iff_not]; omega
            clear HE hq0 hjz
            go_wp2_with fail
            go_quiet (fail)
            obtain ⟨W5, HW5⟩ : ∃ W5, Hid (W5 = wr.drewN nq) := ⟨_, rfl⟩
            rw [← HW5.out]
            go_wp2_with fail
            go_quiet (fail)
            obtain ⟨W6, HW6⟩ : ∃ W6, Hid (W6 = W5.drewN nq) := ⟨_, rfl⟩
            rw [← HW6.out]
            have HBW : Hid (Below wr.heap.size wr W6) := by unfold Hid; rw [HW6.out, HW5.out]; exact (Drawn.below ⟨_, rfl⟩ _).trans ((Drawn.below ⟨_, rfl⟩ _))
            have HA6 := Lib.hid (HA4.out.below HBW.out)
            have HK6 := Lib.hid (blk_below HK2.out HBW.out)
            go_wp2_with (at_builtin; refine wpList_push okDomino rfl _ _ rfl HA6.out rfl (0, 0, false) _ rfl _ rfl rfl (by omega) ?_; intro v7 w7 HA7 HG7; obtain ⟨g7, c7, hv7, hgb7, hglt7⟩ := World.ownsRow.form HA7.out.1 (by simp); rw [List.length_append, List.length_singleton] at hv7; subst hv7)
            have hc7 : ys.length + 1 ≤ c7 := by
              obtain ⟨A9, c9, hv9, q91, q92, _⟩ := HA7.out.1.rd okDomino
              simp at hv9 q91
              omega
            have hge : (0 : Int) ≤ (j : Int) + 1 := by omega
            have HK7 := Lib.hid (blk_grew HK6.out HG7.out HOB.out)
            by_cases hjl : j = ys.length
            · have hle : (j : Int) + 1 ≤ (ys.length : Int) + 1 := by omega
              have hle' : (j : Int) ≤ (ys.length : Int) + 1 := by omega
              have hmin : Nat.min (ys.length + 1 - j) (ys.length - j) = 0 := by show min _ _ = 0; omega
              have HJL := Lib.hid hjl
              clear hjl
              refine wp_region_held_drew (S := fun _ => True) (by kernel_rfl) (by exact trivial) (fun hHeld => ?_)
              refine wpAnyH_take (i := 0) (oi := ⟨_, _, _, _, _, _⟩) (v := ?vap29651q1n0) rfl (by kernel_rfl) (by kernel_rfl) (by kernel_rfl) (fun _ _ _ h => h) (Or.inl ⟨by rfl, ?hap29651q1n0⟩) (by assumption) ?_
              case hap29651q1n0 => (intro w hSw; (try dsimp only at hSw); go_simp; try with_reducible rfl)
              try simp only [Act.put, List.setIfInBounds_toArray, List.set_cons_zero, List.set_cons_succ]
              refine wpAnyH_take (i := 1) (oi := ⟨_, _, _, _, _, _⟩) (v := ?vap29651q2n1) rfl (by kernel_rfl) (by kernel_rfl) (by kernel_rfl) (fun _ _ _ h => h) (Or.inl ⟨by rfl, ?hap29651q2n1⟩) (by assumption) ?_
              case hap29651q2n1 => (intro w hSw; (try dsimp only at hSw); go_simp; try with_reducible rfl)
              try simp only [Act.put, List.setIfInBounds_toArray, List.set_cons_zero, List.set_cons_succ]
              refine wpAnyH_take (i := 2) (oi := ⟨_, _, _, _, _, _⟩) (v := ?vap29651q3n2) rfl (by kernel_rfl) (by kernel_rfl) (by kernel_rfl) (fun _ _ _ h => h) (Or.inl ⟨by rfl, ?hap29651q3n2⟩) (by assumption) ?_
              case hap29651q3n2 => (intro w hSw; (try dsimp only at hSw); go_simp; try with_reducible rfl)
              try simp only [Act.put, List.setIfInBounds_toArray, List.set_cons_zero, List.set_cons_succ]
              refine wpAnyH_take (i := 3) (oi := ⟨_, _, _, _, _, _⟩) (v := ?vap29651q4n3) rfl (by kernel_rfl) (by kernel_rfl) (by kernel_rfl) (fun _ _ _ h => h) (Or.inl ⟨by rfl, ?hap29651q4n3⟩) (by assumption) ?_
              case hap29651q4n3 => (intro w hSw; (try dsimp only at hSw); go_simp; try with_reducible rfl)
              try simp only [Act.put, List.setIfInBounds_toArray, List.set_cons_zero, List.set_cons_succ]
              refine wpAnyH_take (i := 4) (oi := ⟨_, _, _, _, _, _⟩) (v := ?vap29651q5n4) rfl (by kernel_rfl) (by kernel_rfl) (by kernel_rfl) (fun _ _ _ h => h) (Or.inl ⟨by rfl, ?hap29651q5n4⟩) (by assumption) ?_
              case hap29651q5n4 => (intro w hSw; (try dsimp only at hSw); go_simp; try with_reducible rfl)
              try simp only [Act.put, List.setIfInBounds_toArray, List.set_cons_zero, List.set_cons_succ]
              refine wpAnyH_take (i := 5) (oi := ⟨_, _, _, _, _, _⟩) (v := ?vap29651q6n5) rfl (by kernel_rfl) (by kernel_rfl) (by kernel_rfl) (fun _ _ _ h => h) (Or.inl ⟨by rfl, ?hap29651q6n5⟩) (by assumption) ?_
              case hap29651q6n5 => (intro w hSw; (try dsimp only at hSw); go_simp; try with_reducible rfl)
              try simp only [Act.put, List.setIfInBounds_toArray, List.set_cons_zero, List.set_cons_succ]
              refine wpAnyH_take (i := 6) (oi := ⟨_, _, _, _, _, _⟩) (v := ?vap29651q7n6) rfl (by kernel_rfl) (by kernel_rfl) (by kernel_rfl) (fun _ _ _ h => h) (Or.inl ⟨by rfl, ?hap29651q7n6⟩) (by assumption) ?_
              case hap29651q7n6 => (intro w hSw; (try dsimp only at hSw); go_simp; try with_reducible rfl)
              try simp only [Act.put, List.setIfInBounds_toArray, List.set_cons_zero, List.set_cons_succ]
              refine wpAnyH_ready (rs := [7]) (by kernel_rfl) (by simp) ?_
              refine AllReadyH.cons (o := ⟨_, _, _, _, _, _⟩) rfl (fun K hK => ?_) AllReadyH.nil
              refine step_copyNone okDomino (by rfl) (.tmp 52) (.tmp 55) (by rfl) (by rfl) (by rfl) hmin ?_
              refine hK.out _ _ (by exact trivial) (fun hHeld => ?_)
              clear hK K
              try simp only [Act.put, List.setIfInBounds_toArray, List.set_cons_zero, List.set_cons_succ]
              refine wpAnyH_done (by kernel_rfl) ?_ _
              obtain ⟨w8, HW8⟩ : ∃ w8, Hid (w8 = w7.drew) := ⟨_, rfl⟩
              rw [← HW8.out]
              obtain ⟨zs, HZS⟩ : ∃ zs, Hid (zs = ys ++ [((0, 0, false) : Lk)]) := ⟨_, rfl⟩
              have HO8 : Hid (OwnF elDomino w8 w.heap.size (.slice (some ⟨g7, 0, none⟩) zs.length c7) zs) := by
                unfold Hid; rw [HW8.out, HZS.out, List.length_append, List.length_singleton]
                exact HA7.out.1
              have HZL : Hid (zs.length = ys.length + 1) := by rw [HZS.out]; unfold Hid; simp
              have HZE : Hid (zs.set j (x, y, d) = ys.take j ++ (x, y, d) :: ys.drop j) := by unfold Hid; rw [HZS.out, HJL.out]; simp
              have HB8 : Hid (Below w.heap.size w w8) := by unfold Hid; rw [HW8.out]; exact HA7.out.2.1.trans (Drawn.below ⟨_, rfl⟩ _)
              have HK8 := Lib.hid (show w8.heap[_]? = _ from (congrArg (fun q : World => q.heap[_]?) HW8.out).trans HK7.out.1)
              have hzl : zs.length = ys.length + 1 := HZL.out
              obtain ⟨c0, c1, c2, hfr, ht3⟩ := triStore okDomino rfl (fun _ => rfl) (cap := c7) (ls := zs) HO8.out (j := j) (by omega)
              obtain ⟨hst, hgr⟩ := ht3 x y d
              rw [List.length_set, hzl] at hst
              have HBN := Lib.hid (HB8.out.grown hgr HB8.out.size (fun q hq => by obtain rfl := Option.some.inj hq; exact hgb7))
              have hle9 := HBN.out.size
              have HN := Lib.hid hst
              have hj7 : (j : Int) < (ys.length : Int) + 1 := by omega
              obtain ⟨h1, h2, h3⟩ := tri_cells HK8.out
              clear hst hgr ht3 hzl
              go_wp2_with fail
              go_roundw
              case rel => exact ⟨k + 1, _, by omega, by go_num, rfl, by rw [HE0.out, ← HZE.out]; exact ⟨HN.out, HBN.out, Nat.le_refl _, hle9⟩⟩
              case measure => simp [intOf]; omega
            · have hle : (j : Int) + 1 ≤ (ys.length : Int) + 1 := by omega
              have hle' : (j : Int) ≤ (ys.length : Int) + 1 := by omega
              have hc8 : ¬ c7 = j + 1 := by omega
              have hc9 : ¬ c7 = j := by omega
              have hjlt : j < ys.length := by omega
              clear hjl
              refine wp_region_held_drew (S := fun _ => True) (by kernel_rfl) (by exact trivial) (fun hHeld => ?_)
              refine wpAnyH_take (i := 0) (oi := ⟨_, _, _, _, _, _⟩) (v := ?vap29652q1n0) rfl (by kernel_rfl) (by kernel_rfl) (by kernel_rfl) (fun _ _ _ h => h) (Or.inl ⟨by rfl, ?hap29652q1n0⟩) (by assumption) ?_
              case hap29652q1n0 => (intro w hSw; (try dsimp only at hSw); go_simp; try with_reducible rfl)
              try simp only [Act.put, List.setIfInBounds_toArray, List.set_cons_zero, List.set_cons_succ]
              refine wpAnyH_take (i := 1) (oi := ⟨_, _, _, _, _, _⟩) (v := ?vap29652q2n1) rfl (by kernel_rfl) (by kernel_rfl) (by kernel_rfl) (fun _ _ _ h => h) (Or.inl ⟨by rfl, ?hap29652q2n1⟩) (by assumption) ?_
              case hap29652q2n1 => (intro w hSw; (try dsimp only at hSw); go_simp; try with_reducible rfl)
              try simp only [Act.put, List.setIfInBounds_toArray, List.set_cons_zero, List.set_cons_succ]
              refine wpAnyH_take (i := 2) (oi := ⟨_, _, _, _, _, _⟩) (v := ?vap29652q3n2) rfl (by kernel_rfl) (by kernel_rfl) (by kernel_rfl) (fun _ _ _ h => h) (Or.inl ⟨by rfl, ?hap29652q3n2⟩) (by assumption) ?_
              case hap29652q3n2 => (intro w hSw; (try dsimp only at hSw); go_simp; try with_reducible rfl)
              try simp only [Act.put, List.setIfInBounds_toArray, List.set_cons_zero, List.set_cons_succ]
              refine wpAnyH_take (i := 3) (oi := ⟨_, _, _, _, _, _⟩) (v := ?vap29652q4n3) rfl (by kernel_rfl) (by kernel_rfl) (by kernel_rfl) (fun _ _ _ h => h) (Or.inl ⟨by rfl, ?hap29652q4n3⟩) (by assumption) ?_
              case hap29652q4n3 => (intro w hSw; (try dsimp only at hSw); go_simp; try with_reducible rfl)
              try simp only [Act.put, List.setIfInBounds_toArray, List.set_cons_zero, List.set_cons_succ]
              refine wpAnyH_take (i := 4) (oi := ⟨_, _, _, _, _, _⟩) (v := ?vap29652q5n4) rfl (by kernel_rfl) (by kernel_rfl) (by kernel_rfl) (fun _ _ _ h => h) (Or.inl ⟨by rfl, ?hap29652q5n4⟩) (by assumption) ?_
              case hap29652q5n4 => (intro w hSw; (try dsimp only at hSw); go_simp; try with_reducible rfl)
              try simp only [Act.put, List.setIfInBounds_toArray, List.set_cons_zero, List.set_cons_succ]
              refine wpAnyH_take (i := 5) (oi := ⟨_, _, _, _, _, _⟩) (v := ?vap29652q6n5) rfl (by kernel_rfl) (by kernel_rfl) (by kernel_rfl) (fun _ _ _ h => h) (Or.inl ⟨by rfl, ?hap29652q6n5⟩) (by assumption) ?_
              case hap29652q6n5 => (intro w hSw; (try dsimp only at hSw); go_simp; try with_reducible rfl)
              try simp only [Act.put, List.setIfInBounds_toArray, List.set_cons_zero, List.set_cons_succ]
              refine wpAnyH_take (i := 6) (oi := ⟨_, _, _, _, _, _⟩) (v := ?vap29652q7n6) rfl (by kernel_rfl) (by kernel_rfl) (by kernel_rfl) (fun _ _ _ h => h) (Or.inl ⟨by rfl, ?hap29652q7n6⟩) (by assumption) ?_
              case hap29652q7n6 => (intro w hSw; (try dsimp only at hSw); go_simp; try with_reducible rfl)
              try simp only [Act.put, List.setIfInBounds_toArray, List.set_cons_zero, List.set_cons_succ]
              refine wpAnyH_ready (rs := [7]) (by kernel_rfl) (by simp) ?_
              refine AllReadyH.cons (o := ⟨_, _, _, _, _, _⟩) rfl (fun K hK => ?_) AllReadyH.nil
              refine step_copyIn okDomino (by rfl) (.tmp 52) (.tmp 55) (by rfl) g7 c7 j (ys.length - j) _ _ w.heap.size ys (0, 0, false) (by rfl) (by rfl) (by rfl) (show OwnF _ w7.drew _ _ _ from HA7.out.1) hjlt ?_
              intro w8 HO8 HG8
              refine hK.out _ _ (by exact trivial) (fun hHeld => ?_)
              clear hK K
              try simp only [Act.put, List.setIfInBounds_toArray, List.set_cons_zero, List.set_cons_succ]
              refine wpAnyH_done (by kernel_rfl) ?_ _
              obtain ⟨zs, HZS⟩ : ∃ zs, Hid (zs = ys.take (j + 1) ++ ys.drop j) := ⟨_, rfl⟩
              have HZL : Hid (zs.length = ys.length + 1) := by rw [HZS.out]; unfold Hid; simp; omega
              have HO8 : Hid (OwnF elDomino w8 w.heap.size (.slice (some ⟨g7, 0, none⟩) zs.length c7) zs) := by
                unfold Hid; rw [HZL.out, HZS.out]
                exact HO8.out
              have HZE : Hid (zs.set j (x, y, d) = ys.take j ++ (x, y, d) :: ys.drop j) := by unfold Hid; rw [HZS.out]; exact set_shift ys j (x, y, d) hjlt
              have HB8 : Hid (Below w.heap.size w w8) := by
                have h9 : Below w.heap.size w w7.drew := HA7.out.2.1.trans (Drawn.below ⟨_, rfl⟩ _)
                exact h9.grown HG8.out h9.size (fun q hq => by obtain rfl := Option.some.inj hq; exact hgb7)
              have HK8 := Lib.hid ((HG8.out.block _ (lt_of_block HK7.out.1) (fun e => HK7.out.2 g7 rfl (Option.some.inj e))).trans HK7.out.1)
              have hzl : zs.length = ys.length + 1 := HZL.out
              obtain ⟨c0, c1, c2, hfr, ht3⟩ := triStore okDomino rfl (fun _ => rfl) (cap := c7) (ls := zs) HO8.out (j := j) (by omega)
              obtain ⟨hst, hgr⟩ := ht3 x y d
              rw [List.length_set, hzl] at hst
              have HBN := Lib.hid (HB8.out.grown hgr HB8.out.size (fun q hq => by obtain rfl := Option.some.inj hq; exact hgb7))
              have hle9 := HBN.out.size
              have HN := Lib.hid hst
              have hj7 : (j : Int) < (ys.length : Int) + 1 := by omega
              obtain ⟨h1, h2, h3⟩ := tri_cells HK8.out
              clear hst hgr ht3 hzl
              go_wp2_with fail
              go_roundw
              case rel => exact ⟨k + 1, _, by omega, by go_num, rfl, by rw [HE0.out, ← HZE.out]; exact ⟨HN.out, HBN.out, Nat.le_refl _, hle9⟩⟩
              case measure => simp [intOf]; omega
          · obtain ⟨m, hm⟩ : ∃ m, j = m + 1 := ⟨j - 1, by omega⟩
            have htz : decide (0 < j) = true := by simp only [decide_eq_true_eq]; omega
            have hjm : IntKind.i64.wrap ((j : Int) - 1) = (m : Int) := by rw [IntWalk.i64_in _ (by omega)]; omega
            have hm0 : (0 : Int) ≤ (m : Int) := by omega
            have hml : m < ys.length := by omega
            have hm1 : (m : Int) < (ys.length : Int) := by omega
            have hmj : m < j := by omega
            have HDJ : Hid (downK ys o j = if o < ordL (dAt ys m) then downK ys o m else m + 1) := by unfold Hid; rw [hm]; rfl
            have HQJ : Hid (downK ys o m = q → downK ys o m = q) := fun h => h
            obtain ⟨Ar, cr, hvr, _, _, Gr⟩ := RdT.of (E := elDomino) rfl (fun _ => rfl) (HA4.out.1.rd okDomino)
            obtain ⟨ad1, hA1, hbl1, r1, r2, r3⟩ := Gr.out m hml
            have hAe : A1 = Ar := by simp at hvr; exact hvr.1
            rw [hA1] at hAe
            subst hAe
            clear hvr Gr hA1
            have HDM : Hid (dAt ys m = (lx ys m, ly ys m, ld ys m)) := rfl
            have HOK := Lib.hid (HYS.out.ok hml)
            rw [HDM.out] at HOK
            have hOKM : domB (lx ys m) (ly ys m) (ld ys m) = true := HOK.out
            have hC1 := Lib.hid fun V => order_Z (lx ys m) (ly ys m) (ld ys m) V hOKM
            have HOM : Hid (ordL (dAt ys m) = domO (lx ys m).toNat (ly ys m).toNat (ld ys m)) := rfl
            rw [HOM.out] at HDJ
            have HEQ : Hid (dAt ys m = (lx ys m, ly ys m, ld ys m)) := rfl
            have hk2 := lt_of_block HK2.out
            have hp2 : (ad1.add (m * 3)).block < wr.heap.size := by rw [addBlock]; exact hbl1
            have HL2 := Lib.hid hk2; have HP2 := Lib.hid hp2
            have HS0 : Hid (PrevT wr wr vn x y d (ad1.add (m * 3)) (lx ys m) (ly ys m) (ld ys m)) := ⟨e1, e2, e3, r1, r2, r3, Nat.le_refl _, Below.refl _ _⟩
            clear HOM HOK hOKM HDM hk2 hp2
            generalize domO (lx ys m).toNat (ly ys m).toNat (ld ys m) = n1 at *
            generalize lx ys m = x2 at *
            generalize ly ys m = y2 at *
            generalize ld ys m = d2 at *
            by_cases hgt : o < n1
            · have hcmp : decide (o < n1) = true := by simpa using hgt
              have HJ2 : Hid (downK ys o m = q) := by unfold Hid; rw [← HJ.out, HDJ.out, if_pos hgt]
              clear hgt HDJ hm
              go_wp2_with fail
              go_region_held3 (fun w' => PrevT wr w' vn x y d (ad1.add (m * 3)) x2 y2 d2)
                (first
                  | exact HS0.out.drew
                  | exact PrevT.keep hb1 HL2.out HP2.out (by assumption))
                (first
                  | (go_at_call 136; (with_reducible refine (hC1.out _).mono ?_); rintro e w3 ⟨rfl, hb1⟩)
                  | (go_at_call 136; (with_reducible refine (hC2.out _).mono ?_); rintro e w3 ⟨rfl, hb1⟩))
              have HP3 := Lib.hid (show PrevT wr _ vn x y d (ad1.add (m * 3)) x2 y2 d2 from by assumption)
              have HB3 := Lib.hid (HB.out.trans (HP3.out.2.2.2.2.2.2.2.mono HB.out.size))
              clear e1 e2 e3 r1 r2 r3
              go_wp2_with fail
              go_roundw
              case rel => exact ⟨m, by omega, rfl, HJ2, HB3⟩
              case measure => simp [intOf]; omega
            · have hcmp : decide (o < n1) = false := by simpa using hgt
              have HQM : Hid (q = j) := by unfold Hid; rw [← HJ.out, HDJ.out, if_neg hgt, hm]
              clear hgt HDJ
              have HM1 := Lib.hid hm
              clear hm
              go_wp2_with fail
              go_region_held3 (fun w' => PrevT wr w' vn x y d (ad1.add (m * 3)) x2 y2 d2)
                (first
                  | exact HS0.out.drew
                  | exact PrevT.keep hb1 HL2.out HP2.out (by assumption))
                (first
                  | (go_at_call 136; (with_reducible refine (hC1.out _).mono ?_); rintro e w3 ⟨rfl, hb1⟩)
                  | (go_at_call 136; (with_reducible refine (hC2.out _).mono ?_); rintro e w3 ⟨rfl, hb1⟩))
              have HP3 := Lib.hid (show PrevT wr _ vn x y d (ad1.add (m * 3)) x2 y2 d2 from by assumption)
              clear e1 e2 e3 r1 r2 r3
              obtain ⟨e1, e2, e3, r1, r2, r3, _, hb3⟩ := HP3.out
              have HB3 := Lib.hid hb3
              clear hb3
              by_cases heq : (x2, y2, d2) = (x, y, d)
              · have HE1 : Hid (st (k + 1) = ys) := by
                  unfold Hid; rw [HE.out, HQM.out, if_pos]
                  rw [HM1.out]
                  simp only [Nat.add_sub_cancel, HEQ.out, heq]
                  simp
                simp only [Prod.mk.injEq] at heq
                obtain ⟨rfl, rfl, rfl⟩ := heq
                go_wp2_with fail
                go_quiet (fail)
                have HA9 := Lib.hid (HA4.out.below (HB3.out.trans (Drawn.below ⟨nq, rfl⟩ _)))
                go_wp2_with fail
                go_roundw
                case rel => exact ⟨k + 1, _, by omega, by go_num, rfl, by rw [HE1.out]; exact HA9⟩
                case measure => simp [intOf]; omega
              · have HE0 : Hid (st (k + 1) = ys.take j ++ (x, y, d) :: ys.drop j) := by
                  unfold Hid; rw [HE.out, HQM.out, if_neg]
                  rw [HM1.out]
                  simp only [Nat.add_sub_cancel, HEQ.out]
                  simpa using heq
                have hsq : ∀ W : World, Sem.run Try.prog (binOp .eql 46 (.agg #[.int .i64 x2, .int .i64 y2, .bool d2]) (.agg #[.int .i64 x, .int .i64 y, .bool d])) W = .ok (.bool false) W := fun W => by
                  by_cases h1 : x2 = x
                  · by_cases h2 : y2 = y
                    · have h3 : ¬ d2 = d := fun h => heq (by rw [h1, h2, h])
                      go_simp
                    · go_simp
                  · go_simp
                clear heq HE
                go_wp2_with fail
                go_quiet (fail)
                clear hsq
                obtain ⟨W6, HW6⟩ : ∃ W6, Hid (W6 = World.drewN w3 nq) := ⟨_, rfl⟩
                rw [← HW6.out]
                have HBW : Hid (Below wr.heap.size wr W6) := by unfold Hid; rw [HW6.out]; exact HB3.out.trans (Drawn.below ⟨_, rfl⟩ _)
                have HA6 := Lib.hid (HA4.out.below HBW.out)
                have HK6 := Lib.hid (blk_below HK2.out HBW.out)
                go_wp2_with (at_builtin; refine wpList_push okDomino rfl _ _ rfl HA6.out rfl (0, 0, false) _ rfl _ rfl rfl (by omega) ?_; intro v7 w7 HA7 HG7; obtain ⟨g7, c7, hv7, hgb7, hglt7⟩ := World.ownsRow.form HA7.out.1 (by simp); rw [List.length_append, List.length_singleton] at hv7; subst hv7)
                have hc7 : ys.length + 1 ≤ c7 := by
                  obtain ⟨A9, c9, hv9, q91, q92, _⟩ := HA7.out.1.rd okDomino
                  simp at hv9 q91
                  omega
                have hge : (0 : Int) ≤ (j : Int) + 1 := by omega
                have HK7 := Lib.hid (blk_grew HK6.out HG7.out HOB.out)
                by_cases hjl : j = ys.length
                · have hle : (j : Int) + 1 ≤ (ys.length : Int) + 1 := by omega
                  have hle' : (j : Int) ≤ (ys.length : Int) + 1 := by omega
                  have hmin : Nat.min (ys.length + 1 - j) (ys.length - j) = 0 := by show min _ _ = 0; omega
                  have HJL := Lib.hid hjl
                  clear hjl
                  refine wp_region_held_drew (S := fun _ => True) (by kernel_rfl) (by exact trivial) (fun hHeld => ?_)
                  refine wpAnyH_take (i := 0) (oi := ⟨_, _, _, _, _, _⟩) (v := ?vap29653q1n0) rfl (by kernel_rfl) (by kernel_rfl) (by kernel_rfl) (fun _ _ _ h => h) (Or.inl ⟨by rfl, ?hap29653q1n0⟩) (by assumption) ?_
                  case hap29653q1n0 => (intro w hSw; (try dsimp only at hSw); go_simp; try with_reducible rfl)
                  try simp only [Act.put, List.setIfInBounds_toArray, List.set_cons_zero, List.set_cons_succ]
                  refine wpAnyH_take (i := 1) (oi := ⟨_, _, _, _, _, _⟩) (v := ?vap29653q2n1) rfl (by kernel_rfl) (by kernel_rfl) (by kernel_rfl) (fun _ _ _ h => h) (Or.inl ⟨by rfl, ?hap29653q2n1⟩) (by assumption) ?_
                  case hap29653q2n1 => (intro w hSw; (try dsimp only at hSw); go_simp; try with_reducible rfl)
                  try simp only [Act.put, List.setIfInBounds_toArray, List.set_cons_zero, List.set_cons_succ]
                  refine wpAnyH_take (i := 2) (oi := ⟨_, _, _, _, _, _⟩) (v := ?vap29653q3n2) rfl (by kernel_rfl) (by kernel_rfl) (by kernel_rfl) (fun _ _ _ h => h) (Or.inl ⟨by rfl, ?hap29653q3n2⟩) (by assumption) ?_
                  case hap29653q3n2 => (intro w hSw; (try dsimp only at hSw); go_simp; try with_reducible rfl)
                  try simp only [Act.put, List.setIfInBounds_toArray, List.set_cons_zero, List.set_cons_succ]
                  refine wpAnyH_take (i := 3) (oi := ⟨_, _, _, _, _, _⟩) (v := ?vap29653q4n3) rfl (by kernel_rfl) (by kernel_rfl) (by kernel_rfl) (fun _ _ _ h => h) (Or.inl ⟨by rfl, ?hap29653q4n3⟩) (by assumption) ?_
                  case hap29653q4n3 => (intro w hSw; (try dsimp only at hSw); go_simp; try with_reducible rfl)
                  try simp only [Act.put, List.setIfInBounds_toArray, List.set_cons_zero, List.set_cons_succ]
                  refine wpAnyH_take (i := 4) (oi := ⟨_, _, _, _, _, _⟩) (v := ?vap29653q5n4) rfl (by kernel_rfl) (by kernel_rfl) (by kernel_rfl) (fun _ _ _ h => h) (Or.inl ⟨by rfl, ?hap29653q5n4⟩) (by assumption) ?_
                  case hap29653q5n4 => (intro w hSw; (try dsimp only at hSw); go_simp; try with_reducible rfl)
                  try simp only [Act.put, List.setIfInBounds_toArray, List.set_cons_zero, List.set_cons_succ]
                  refine wpAnyH_take (i := 5) (oi := ⟨_, _, _, _, _, _⟩) (v := ?vap29653q6n5) rfl (by kernel_rfl) (by kernel_rfl) (by kernel_rfl) (fun _ _ _ h => h) (Or.inl ⟨by rfl, ?hap29653q6n5⟩) (by assumption) ?_
                  case hap29653q6n5 => (intro w hSw; (try dsimp only at hSw); go_simp; try with_reducible rfl)
                  try simp only [Act.put, List.setIfInBounds_toArray, List.set_cons_zero, List.set_cons_succ]
                  refine wpAnyH_take (i := 6) (oi := ⟨_, _, _, _, _, _⟩) (v := ?vap29653q7n6) rfl (by kernel_rfl) (by kernel_rfl) (by kernel_rfl) (fun _ _ _ h => h) (Or.inl ⟨by rfl, ?hap29653q7n6⟩) (by assumption) ?_
                  case hap29653q7n6 => (intro w hSw; (try dsimp only at hSw); go_simp; try with_reducible rfl)
                  try simp only [Act.put, List.setIfInBounds_toArray, List.set_cons_zero, List.set_cons_succ]
                  refine wpAnyH_ready (rs := [7]) (by kernel_rfl) (by simp) ?_
                  refine AllReadyH.cons (o := ⟨_, _, _, _, _, _⟩) rfl (fun K hK => ?_) AllReadyH.nil
                  refine step_copyNone okDomino (by rfl) (.tmp 52) (.tmp 55) (by rfl) (by rfl) (by rfl) hmin ?_
                  refine hK.out _ _ (by exact trivial) (fun hHeld => ?_)
                  clear hK K
                  try simp only [Act.put, List.setIfInBounds_toArray, List.set_cons_zero, List.set_cons_succ]
                  refine wpAnyH_done (by kernel_rfl) ?_ _
                  obtain ⟨w8, HW8⟩ : ∃ w8, Hid (w8 = w7.drew) := ⟨_, rfl⟩
                  rw [← HW8.out]
                  obtain ⟨zs, HZS⟩ : ∃ zs, Hid (zs = ys ++ [((0, 0, false) : Lk)]) := ⟨_, rfl⟩
                  have HO8 : Hid (OwnF elDomino w8 w.heap.size (.slice (some ⟨g7, 0, none⟩) zs.length c7) zs) := by
                    unfold Hid; rw [HW8.out, HZS.out, List.length_append, List.length_singleton]
                    exact HA7.out.1
                  have HZL : Hid (zs.length = ys.length + 1) := by rw [HZS.out]; unfold Hid; simp
                  have HZE : Hid (zs.set j (x, y, d) = ys.take j ++ (x, y, d) :: ys.drop j) := by unfold Hid; rw [HZS.out, HJL.out]; simp
                  have HB8 : Hid (Below w.heap.size w w8) := by unfold Hid; rw [HW8.out]; exact HA7.out.2.1.trans (Drawn.below ⟨_, rfl⟩ _)
                  have HK8 := Lib.hid (show w8.heap[_]? = _ from (congrArg (fun q : World => q.heap[_]?) HW8.out).trans HK7.out.1)
                  have hzl : zs.length = ys.length + 1 := HZL.out
                  obtain ⟨c0, c1, c2, hfr, ht3⟩ := triStore okDomino rfl (fun _ => rfl) (cap := c7) (ls := zs) HO8.out (j := j) (by omega)
                  obtain ⟨hst, hgr⟩ := ht3 x y d
                  rw [List.length_set, hzl] at hst
                  have HBN := Lib.hid (HB8.out.grown hgr HB8.out.size (fun q hq => by obtain rfl := Option.some.inj hq; exact hgb7))
                  have hle9 := HBN.out.size
                  have HN := Lib.hid hst
                  have hj7 : (j : Int) < (ys.length : Int) + 1 := by omega
                  obtain ⟨h1, h2, h3⟩ := tri_cells HK8.out
                  clear hst hgr ht3 hzl
                  go_wp2_with fail
                  go_roundw
                  case rel => exact ⟨k + 1, _, by omega, by go_num, rfl, by rw [HE0.out, ← HZE.out]; exact ⟨HN.out, HBN.out, Nat.le_refl _, hle9⟩⟩
                  case measure => simp [intOf]; omega
                · have hle : (j : Int) + 1 ≤ (ys.length : Int) + 1 := by omega
                  have hle' : (j : Int) ≤ (ys.length : Int) + 1 := by omega
                  have hc8 : ¬ c7 = j + 1 := by omega
                  have hc9 : ¬ c7 = j := by omega
                  have hjlt : j < ys.length := by omega
                  clear hjl
                  refine wp_region_held_drew (S := fun _ => True) (by kernel_rfl) (by exact trivial) (fun hHeld => ?_)
                  refine wpAnyH_take (i := 0) (oi := ⟨_, _, _, _, _, _⟩) (v := ?vap29654q1n0) rfl (by kernel_rfl) (by kernel_rfl) (by kernel_rfl) (fun _ _ _ h => h) (Or.inl ⟨by rfl, ?hap29654q1n0⟩) (by assumption) ?_
                  case hap29654q1n0 => (intro w hSw; (try dsimp only at hSw); go_simp; try with_reducible rfl)
                  try simp only [Act.put, List.setIfInBounds_toArray, List.set_cons_zero, List.set_cons_succ]
                  refine wpAnyH_take (i := 1) (oi := ⟨_, _, _, _, _, _⟩) (v := ?vap29654q2n1) rfl (by kernel_rfl) (by kernel_rfl) (by kernel_rfl) (fun _ _ _ h => h) (Or.inl ⟨by rfl, ?hap29654q2n1⟩) (by assumption) ?_
                  case hap29654q2n1 => (intro w hSw; (try dsimp only at hSw); go_simp; try with_reducible rfl)
                  try simp only [Act.put, List.setIfInBounds_toArray, List.set_cons_zero, List.set_cons_succ]
                  refine wpAnyH_take (i := 2) (oi := ⟨_, _, _, _, _, _⟩) (v := ?vap29654q3n2) rfl (by kernel_rfl) (by kernel_rfl) (by kernel_rfl) (fun _ _ _ h => h) (Or.inl ⟨by rfl, ?hap29654q3n2⟩) (by assumption) ?_
                  case hap29654q3n2 => (intro w hSw; (try dsimp only at hSw); go_simp; try with_reducible rfl)
                  try simp only [Act.put, List.setIfInBounds_toArray, List.set_cons_zero, List.set_cons_succ]
                  refine wpAnyH_take (i := 3) (oi := ⟨_, _, _, _, _, _⟩) (v := ?vap29654q4n3) rfl (by kernel_rfl) (by kernel_rfl) (by kernel_rfl) (fun _ _ _ h => h) (Or.inl ⟨by rfl, ?hap29654q4n3⟩) (by assumption) ?_
                  case hap29654q4n3 => (intro w hSw; (try dsimp only at hSw); go_simp; try with_reducible rfl)
                  try simp only [Act.put, List.setIfInBounds_toArray, List.set_cons_zero, List.set_cons_succ]
                  refine wpAnyH_take (i := 4) (oi := ⟨_, _, _, _, _, _⟩) (v := ?vap29654q5n4) rfl (by kernel_rfl) (by kernel_rfl) (by kernel_rfl) (fun _ _ _ h => h) (Or.inl ⟨by rfl, ?hap29654q5n4⟩) (by assumption) ?_
                  case hap29654q5n4 => (intro w hSw; (try dsimp only at hSw); go_simp; try with_reducible rfl)
                  try simp only [Act.put, List.setIfInBounds_toArray, List.set_cons_zero, List.set_cons_succ]
                  refine wpAnyH_take (i := 5) (oi := ⟨_, _, _, _, _, _⟩) (v := ?vap29654q6n5) rfl (by kernel_rfl) (by kernel_rfl) (by kernel_rfl) (fun _ _ _ h => h) (Or.inl ⟨by rfl, ?hap29654q6n5⟩) (by assumption) ?_
                  case hap29654q6n5 => (intro w hSw; (try dsimp only at hSw); go_simp; try with_reducible rfl)
                  try simp only [Act.put, List.setIfInBounds_toArray, List.set_cons_zero, List.set_cons_succ]
                  refine wpAnyH_take (i := 6) (oi := ⟨_, _, _, _, _, _⟩) (v := ?vap29654q7n6) rfl (by kernel_rfl) (by kernel_rfl) (by kernel_rfl) (fun _ _ _ h => h) (Or.inl ⟨by rfl, ?hap29654q7n6⟩) (by assumption) ?_
                  case hap29654q7n6 => (intro w hSw; (try dsimp only at hSw); go_simp; try with_reducible rfl)
                  try simp only [Act.put, List.setIfInBounds_toArray, List.set_cons_zero, List.set_cons_succ]
                  refine wpAnyH_ready (rs := [7]) (by kernel_rfl) (by simp) ?_
                  refine AllReadyH.cons (o := ⟨_, _, _, _, _, _⟩) rfl (fun K hK => ?_) AllReadyH.nil
                  refine step_copyIn okDomino (by rfl) (.tmp 52) (.tmp 55) (by rfl) g7 c7 j (ys.length - j) _ _ w.heap.size ys (0, 0, false) (by rfl) (by rfl) (by rfl) (show OwnF _ w7.drew _ _ _ from HA7.out.1) hjlt ?_
                  intro w8 HO8 HG8
                  refine hK.out _ _ (by exact trivial) (fun hHeld => ?_)
                  clear hK K
                  try simp only [Act.put, List.setIfInBounds_toArray, List.set_cons_zero, List.set_cons_succ]
                  refine wpAnyH_done (by kernel_rfl) ?_ _
                  obtain ⟨zs, HZS⟩ : ∃ zs, Hid (zs = ys.take (j + 1) ++ ys.drop j) := ⟨_, rfl⟩
                  have HZL : Hid (zs.length = ys.length + 1) := by rw [HZS.out]; unfold Hid; simp; omega
                  have HO8 : Hid (OwnF elDomino w8 w.heap.size (.slice (some ⟨g7, 0, none⟩) zs.length c7) zs) := by
                    unfold Hid; rw [HZL.out, HZS.out]
                    exact HO8.out
                  have HZE : Hid (zs.set j (x, y, d) = ys.take j ++ (x, y, d) :: ys.drop j) := by unfold Hid; rw [HZS.out]; exact set_shift ys j (x, y, d) hjlt
                  have HB8 : Hid (Below w.heap.size w w8) := by
                    have h9 : Below w.heap.size w w7.drew := HA7.out.2.1.trans (Drawn.below ⟨_, rfl⟩ _)
                    exact h9.grown HG8.out h9.size (fun q hq => by obtain rfl := Option.some.inj hq; exact hgb7)
                  have HK8 := Lib.hid ((HG8.out.block _ (lt_of_block HK7.out.1) (fun e => HK7.out.2 g7 rfl (Option.some.inj e))).trans HK7.out.1)
                  have hzl : zs.length = ys.length + 1 := HZL.out
                  obtain ⟨c0, c1, c2, hfr, ht3⟩ := triStore okDomino rfl (fun _ => rfl) (cap := c7) (ls := zs) HO8.out (j := j) (by omega)
                  obtain ⟨hst, hgr⟩ := ht3 x y d
                  rw [List.length_set, hzl] at hst
                  have HBN := Lib.hid (HB8.out.grown hgr HB8.out.size (fun q hq => by obtain rfl := Option.some.inj hq; exact hgb7))
                  have hle9 := HBN.out.size
                  have HN := Lib.hid hst
                  have hj7 : (j : Int) < (ys.length : Int) + 1 := by omega
                  obtain ⟨h1, h2, h3⟩ := tri_cells HK8.out
                  clear hst hgr ht3 hzl
                  go_wp2_with fail
                  go_roundw
                  case rel => exact ⟨k + 1, _, by omega, by go_num, rfl, by rw [HE0.out, ← HZE.out]; exact ⟨HN.out, HBN.out, Nat.le_refl _, hle9⟩⟩
                  case measure => simp [intOf]; omega
    · obtain rfl : k = ls.length := by omega
      have ht : decide ((ls.length : Int) < (ls.length : Int)) = false := by simp
      go_wp2_with fail
      go_ret
      exact ⟨_, rfl, HA.out.1, HA.out.2.1⟩
end Go.Proofs.Ytehnbalbpfmijaa

namespace Go.Proofs.Ytehnbalbpfmijaa
open Go.RowKit
set_option linter.unusedVariables false

set_option maxRecDepth 100000 in
set_option maxHeartbeats 2000000 in
theorem l24Has_any (ls : List Lk) (v : Value) (cx cy : Int) (h1 : -10 ≤ cx ∧ cx ≤ 100) (h2 : -10 ≤ cy ∧ cy ≤ 100) (hl : ∀ l ∈ ls, (0 ≤ l.1 ∧ l.1 ≤ 4) ∧ 0 ≤ l.2.1 ∧ l.2.1 ≤ 4) (B : Nat) (w : World) (hu : RdF elLink w B v ls) (hB : B ≤ w.heap.size) :
    Calls Try.prog 148 #[v, spotV cx cy] w fun e w' => e = .returned (.bool (decide ((cx, cy) ∈ ls.map lkC))) ∧ Below w.heap.size w w' := by
  obtain ⟨A, c, rfl, g1, g2, G3⟩ := RdT.of (E := elLink) rfl (fun _ => rfl) hu
  unfold maxLen at g2
  obtain ⟨h10, h11⟩ := h1
  obtain ⟨h20, h21⟩ := h2
  obtain ⟨r, HR⟩ : ∃ r, Hid (decide ((cx, cy) ∈ ls.map lkC) = r) := ⟨_, rfl⟩
  rw [HR.out]
  obtain ⟨W, hW, k0, hbW⟩ := one_alloc w (.cells #[.int .i64 cx, .int .i64 cy] 44)
  have HW := Lib.hid hW
  have HK0 := Lib.hid k0
  have HBW := Lib.hid hbW
  have HL := Lib.hid hl
  clear hu hW k0 hbW hl
  go_enter Try.func148, Try.ntmps148
  go_wp2_with fail
  rw [← HW.out]
  go_loopw [5] (fun s wr => ∃ k : Nat, k ≤ ls.length ∧ s = .int .i64 (k : Int) ∧ Hid (Below W.heap.size W wr) ∧ Hid (∀ j, j < k → lkC (dAt ls j) ≠ (cx, cy))) (fun s _ => ls.length - (intOf s).toNat)
  case atStart => exact ⟨0, Nat.zero_le _, rfl, Below.refl _ _, fun j hj => by omega⟩
  case round =>
    obtain ⟨k, hk, rfl, HB, HN⟩ := hrel
    by_cases hlt : k < ls.length
    · have ht : decide ((k : Int) < (ls.length : Int)) = true := by simp only [decide_eq_true_eq]; omega
      obtain ⟨ad, rfl, hbl, hx, hy, hz⟩ := G3.out k hlt
      have hbw := HBW.out.trans (HB.out.mono HBW.out.size)
      have hbl2 : (ad.add (k * 3)).block < w.heap.size := by rw [addBlock]; omega
      have hx' := (hbw.cell (p := ad.add (k * 3)) hbl2).trans hx
      have hy' := (hbw.cell (p := ⟨(ad.add (k * 3)).block, (ad.add (k * 3)).off + 1, none⟩) hbl2).trans hy
      have hz' := (hbw.cell (p := ⟨(ad.add (k * 3)).block, (ad.add (k * 3)).off + 2, none⟩) hbl2).trans hz
      have hk0 : (0 : Int) ≤ (k : Int) := by omega
      have hk1 : (k : Int) < (ls.length : Int) := by omega
      obtain ⟨⟨hx0, hx1⟩, hy0, hy1⟩ := HL.out _ (List.getElem_mem hlt)
      rw [← dAt_get ls k hlt] at hx0 hx1 hy0 hy1
      have HIN : Hid (lkC (dAt ls k) = (cx, cy) → true = r) := fun h => by
        rw [← HR.out]
        symm
        rw [decide_eq_true_iff]
        exact List.mem_map.2 ⟨dAt ls k, by rw [dAt_get ls k hlt]; exact List.getElem_mem hlt, h⟩
      have HN2 : Hid (lkC (dAt ls k) ≠ (cx, cy) → ∀ j, j < k + 1 → lkC (dAt ls j) ≠ (cx, cy)) := fun h j hj => by
        rcases Nat.lt_succ_iff_lt_or_eq.1 hj with hj | rfl
        · exact HN.out j hj
        · exact h
      have HD : Hid (dAt ls k = (lx ls k, ly ls k, ld ls k)) := rfl
      rw [HD.out] at HIN HN2
      have hx0 : 0 ≤ lx ls k := hx0
      have hx1 : lx ls k ≤ 4 := hx1
      have hy0 : 0 ≤ ly ls k := hy0
      have hy1 : ly ls k ≤ 4 := hy1
      clear hx hy hz hbw HN HD
      generalize lx ls k = x at *
      generalize ly ls k = y at *
      generalize ld ls k = d at *
      go_upto_region 5 with (fail)
      obtain ⟨V1, hV1, kV1, bV1⟩ := one_alloc wr (triO x y d 68)
      rw [← hV1]
      obtain ⟨n9, hn9⟩ : ∃ n9, wr.heap.size = n9 := ⟨_, rfl⟩
      have HB1 := Lib.hid (HB.out.trans (bV1.mono HB.out.size))
      rw [hn9] at kV1 ⊢
      obtain ⟨f0, f1, f2⟩ := tri_cells kV1
      have c0 : V1.cell? ⟨w.heap.size, 0, none⟩ = some (.int .i64 cx) := by rw [blk_cell (blk_below HK0.out HB1.out)]; rfl
      have c1 : V1.cell? ⟨w.heap.size, 1, none⟩ = some (.int .i64 cy) := by rw [blk_cell (blk_below HK0.out HB1.out)]; rfl
      have HBN := Lib.hid (HBW.out.trans (HB1.out.mono HBW.out.size))
      clear hV1 kV1 bV1 hn9 hx' hy' hz'
      cases d
      · by_cases e1 : cx = 2 * x + 1
        · by_cases e2 : cy = 2 * y
          · have HT := Lib.hid (HIN.out (by rw [e1, e2]; rfl))
            subst e1 e2
            go_wp2_with fail
            go_ret
            exact ⟨ret_bool HT.out, HBN.out⟩
          · have HM := Lib.hid (HN2.out (fun h => e2 (by simp [lkC] at h; omega)))
            have t1 : (cx == 2 * x + 1) = true := by rw [beq_iff_eq]; exact e1
            have t2 : (cy == 2 * y) = false := by rw [beq_eq_false_iff_ne]; exact e2
            clear e1 e2 HIN HN2
            go_wp2_with fail
            go_roundw
            case rel => exact ⟨k + 1, by omega, by go_num, HB1, HM⟩
            case measure => simp [intOf]; omega
        · have HM := Lib.hid (HN2.out (fun h => e1 (by simp [lkC] at h; omega)))
          have t1 : (cx == 2 * x + 1) = false := by rw [beq_eq_false_iff_ne]; exact e1
          clear e1 HIN HN2
          go_wp2_with fail
          go_roundw
          case rel => exact ⟨k + 1, by omega, by go_num, HB1, HM⟩
          case measure => simp [intOf]; omega
      · by_cases e1 : cx = 2 * x
        · by_cases e2 : cy = 2 * y + 1
          · have HT := Lib.hid (HIN.out (by rw [e1, e2]; rfl))
            subst e1 e2
            go_wp2_with fail
            go_ret
            exact ⟨ret_bool HT.out, HBN.out⟩
          · have HM := Lib.hid (HN2.out (fun h => e2 (by simp [lkC] at h; omega)))
            have t1 : (cx == 2 * x) = true := by rw [beq_iff_eq]; exact e1
            have t2 : (cy == 2 * y + 1) = false := by rw [beq_eq_false_iff_ne]; exact e2
            clear e1 e2 HIN HN2
            go_wp2_with fail
            go_roundw
            case rel => exact ⟨k + 1, by omega, by go_num, HB1, HM⟩
            case measure => simp [intOf]; omega
        · have HM := Lib.hid (HN2.out (fun h => e1 (by simp [lkC] at h; omega)))
          have t1 : (cx == 2 * x) = false := by rw [beq_eq_false_iff_ne]; exact e1
          clear e1 HIN HN2
          go_wp2_with fail
          go_roundw
          case rel => exact ⟨k + 1, by omega, by go_num, HB1, HM⟩
          case measure => simp [intOf]; omega
    · obtain rfl : k = ls.length := by omega
      have ht : decide ((ls.length : Int) < (ls.length : Int)) = false := by simp
      have HF : Hid (false = r) := by
        unfold Hid
        rw [← HR.out]
        symm
        rw [decide_eq_false_iff_not]
        intro hm
        obtain ⟨l, hl, e⟩ := List.mem_map.1 hm
        obtain ⟨j, hj, rfl⟩ := List.mem_iff_getElem.1 hl
        exact HN.out j hj (by rw [dAt_get ls j hj]; exact e)
      have HBN := Lib.hid (HBW.out.trans (HB.out.mono HBW.out.size))
      go_wp2_with fail
      go_ret
      exact ⟨ret_bool HF.out, HBN.out⟩
end Go.Proofs.Ytehnbalbpfmijaa

namespace Go.Proofs.Ytehnbalbpfmijaa
open Go.RowKit
set_option linter.unusedVariables false

set_option maxRecDepth 100000 in
theorem openC_any (ls : List Lk) (v : Value) (cx cy : Int) (h1 : 0 ≤ cx ∧ cx ≤ 100) (h2 : 0 ≤ cy ∧ cy ≤ 100) (nB B : Nat) (w : World) (hu : RdF elLink w B v ls) (hB : B ≤ w.heap.size) (hbox : w.heap[nB]? = some (.cells #[v] 53 (0, 0))) :
    Calls Try.prog 153 #[spotV cx cy, .pointer (some ⟨nB, 0, none⟩)] w fun e w' => e = .returned (.bool (openB ls (cx, cy))) ∧ Below w.heap.size w w' := by
  have HU := Lib.hid hu
  obtain ⟨A, c, rfl, g1, g2, _⟩ := hu
  unfold maxLen at g2
  obtain ⟨h10, h11⟩ := h1
  obtain ⟨h20, h21⟩ := h2
  obtain ⟨W, hW, k0, k1, hb⟩ := two_alloc w (.cells #[.int .i64 cx, .int .i64 cy] 44) (triO (cx / 2) (cy / 2) (cy % 2 == 1) 68)
  have HW := Lib.hid hW
  have HB := Lib.hid hb
  have hbx : W.cell? ⟨nB, 0, none⟩ = some (.slice A ls.length c) := by rw [blk_cell (blk_below hbox hb)]; rfl
  obtain ⟨f0, f1, f2⟩ := tri_cells k1
  have HUB := Lib.hid (HU.out.below (hb.mono hB))
  have HE : Hid (decide (fstZ (lkEq ls (cx / 2) (cy / 2) (cy % 2 == 1)) ls.length 0 < 0) = openB ls (cx, cy)) := rfl
  clear hW hb k0 k1 hbox
  go_enter Try.func153, Try.ntmps153
  go_upto_region 2 with (fail)
  rw [← HW.out]
  go_wp2_with fail
  refine (linkIndex_any _ ls _ _ _ _ _ HUB.out (Nat.le_trans hB HB.out.size)).mono ?_
  rintro e w1 ⟨rfl, hb1⟩
  have HB1 := Lib.hid (HB.out.trans (hb1.mono HB.out.size))
  clear hb1 f0 f1 f2 hbx
  go_wp2_with fail
  go_ret
  exact ⟨ret_bool HE.out, HB1.out⟩
end Go.Proofs.Ytehnbalbpfmijaa

namespace Go.Proofs.Ytehnbalbpfmijaa
open Go.RowKit
set_option linter.unusedVariables false

def bRow (n : Nat) (kn : Nat → Bool) : Array Value := ((List.range n).map fun k => Value.bool (kn k)).toArray
def cRow (n : Nat) (cs : Nat → Int × Int) : Array Value := ((List.range (n * 2)).map fun k => Value.int .i64 (if k % 2 = 0 then (cs (k / 2)).1 else (cs (k / 2)).2)).toArray
theorem bRow_get {n : Nat} {kn : Nat → Bool} {k : Nat} (hk : k < n) : (bRow n kn)[k]? = some (.bool (kn k)) := by simp [bRow, hk]
theorem cRow_get {n : Nat} {cs : Nat → Int × Int} {k : Nat} (hk : k < n) : (cRow n cs)[k * 2]? = some (.int .i64 (cs k).1) ∧ (cRow n cs)[k * 2 + 1]? = some (.int .i64 (cs k).2) := by
  have h1 : k * 2 < n * 2 := by omega
  have h2 : k * 2 + 1 < n * 2 := by omega
  have e1 : k * 2 % 2 = 0 := by omega
  have e2 : k * 2 / 2 = k := by omega
  have e3 : (k * 2 + 1) % 2 = 1 := by omega
  have e4 : (k * 2 + 1) / 2 = k := by omega
  constructor
  · simp [cRow, h1, e1, e2]
  · simp [cRow, h2, e3, e4]
theorem bRow_set {n : Nat} {kn : Nat → Bool} {k : Nat} (hk : k < n) : (bRow n kn).setIfInBounds k (.bool true) = bRow n (updB kn k) := by
  apply Array.ext
  · simp [bRow]
  · intro i h1 h2
    have hi : i < n := by simpa [bRow] using h2
    rw [Array.getElem_setIfInBounds (by simpa [bRow] using hi)]
    by_cases e : k = i
    · subst e; simp [bRow, updB]
    · have e' : ¬ i = k := fun q => e q.symm
      simp [bRow, updB, e, e']
theorem cRow_set {n : Nat} {cs : Nat → Int × Int} {k : Nat} (hk : k < n) (x y : Int) : ((cRow n cs).setIfInBounds (k * 2) (.int .i64 x)).setIfInBounds (k * 2 + 1) (.int .i64 y) = cRow n (updC cs k (x, y)) := by
  apply Array.ext
  · simp [cRow]
  · intro i h1 h2
    have hi : i < n * 2 := by simpa [cRow] using h2
    rw [Array.getElem_setIfInBounds (by simpa [cRow] using hi), Array.getElem_setIfInBounds (by simpa [cRow] using hi)]
    by_cases e : k * 2 + 1 = i
    · subst e
      have e3 : (k * 2 + 1) % 2 = 1 := by omega
      have e4 : (k * 2 + 1) / 2 = k := by omega
      simp [cRow, updC, e3, e4]
    · by_cases e2 : k * 2 = i
      · subst e2
        have e3 : k * 2 % 2 = 0 := by omega
        have e4 : k * 2 / 2 = k := by omega
        simp [cRow, updC, e3, e4]
      · have e3 : ¬ i / 2 = k := by omega
        simp [cRow, updC, e, e2, e3]
theorem bRow_made (n : Nat) : madeCells #[.bool false] n = bRow n fun _ => false := by
  apply Array.ext
  · simp [madeCells, bRow]
  · intro i h1 h2
    have hi : i < n := by simpa [bRow] using h2
    simp [madeCells, bRow, Nat.mod_one]
theorem cRow_made (n : Nat) : madeCells #[.int .i64 0, .int .i64 0] (n * 2) = cRow n fun _ => (0, 0) := by
  apply Array.ext
  · simp [madeCells, cRow]
  · intro i h1 h2
    have hi : i < n * 2 := by simpa [cRow] using h2
    rcases Nat.mod_two_eq_zero_or_one i with e | e <;> simp [madeCells, cRow, e]
/-- The blocks of the search. -/
structure OMem (w wr : World) (gO gK : Nat) (v : Value) (F : Nat) (kn : Nat → Bool) (cs : Nat → Int × Int) : Prop where
  box : wr.heap[w.heap.size]? = some (.cells #[v] 53 (0, 0))
  out : wr.heap[gO]? = some (.cells (cRow F cs) 44 (0, 0))
  kno : wr.heap[gK]? = some (.cells (bRow F kn) 4 (0, 0))
  ne : gO ≠ gK ∧ w.heap.size < gO ∧ w.heap.size < gK
  big : Below w.heap.size w wr
theorem OMem.below {w wr w1 : World} {gO gK : Nat} {v : Value} {F : Nat} {kn : Nat → Bool} {cs : Nat → Int × Int} (h : OMem w wr gO gK v F kn cs) (hb : Below wr.heap.size wr w1) : OMem w w1 gO gK v F kn cs :=
  ⟨blk_below h.box hb, blk_below h.out hb, blk_below h.kno hb, h.ne, h.big.trans (hb.mono h.big.size)⟩
theorem OMem.set {w wr : World} {gO gK : Nat} {v : Value} {F : Nat} {kn : Nat → Bool} {cs : Nat → Int × Int} (h : OMem w wr gO gK v F kn cs) {k : Nat} (hk : k < F) (x y : Int) :
    OMem w (((wr.setCell ⟨gO, k * 2, none⟩ (.int .i64 x)).setCell ⟨gO, k * 2 + 1, none⟩ (.int .i64 y)).setCell ⟨gK, k, none⟩ (.bool true)) gO gK v F (updB kn k) (updC cs k (x, y)) := by
  obtain ⟨h1, h2, h3⟩ := h.ne
  refine ⟨?_, ?_, ?_, h.ne, ?_⟩
  · exact (Below.heap_setCell _ _ _ _ (by show w.heap.size ≠ gK; omega)).trans ((Below.heap_setCell _ _ _ _ (by show w.heap.size ≠ gO; omega)).trans ((Below.heap_setCell _ _ _ _ (by show w.heap.size ≠ gO; omega)).trans h.box))
  · refine (Below.heap_setCell _ _ _ _ (by show gO ≠ gK; omega)).trans ?_
    rw [← cRow_set hk]
    exact blk_setCell (blk_setCell h.out _) _
  · rw [← bRow_set hk]
    exact blk_setCell ((Below.heap_setCell _ _ _ _ (by show gK ≠ gO; omega)).trans ((Below.heap_setCell _ _ _ _ (by show gK ≠ gO; omega)).trans h.kno)) _
  · exact ((h.big.setCell (p := ⟨gO, _, none⟩) (by show w.heap.size ≤ gO; omega) _).setCell (p := ⟨gO, _, none⟩) (by show w.heap.size ≤ gO; omega) _).setCell (p := ⟨gK, _, none⟩) (by show w.heap.size ≤ gK; omega) _
theorem OMem.made {w W : World} {v : Value} {F : Nat} {kn : Nat → Bool} {cs : Nat → Int × Int} (hk : W.heap[w.heap.size]? = some (.cells #[v] 53 (0, 0))) (hb : Below w.heap.size w W) :
    OMem w (((W.alloc (.cells (cRow F cs) 44)).alloc (.cells (bRow F kn) 4)).drew) W.heap.size (W.heap.size + 1) v F kn cs ∧
    OMem w (((W.alloc (.cells (bRow F kn) 4)).alloc (.cells (cRow F cs) 44)).drew) (W.heap.size + 1) W.heap.size v F kn cs := by
  have hl := lt_of_block hk
  obtain ⟨V1, e1, a1, a2, b1⟩ := two_alloc W (.cells (cRow F cs) 44) (.cells (bRow F kn) 4)
  obtain ⟨V2, e2, c1, c2, d1⟩ := two_alloc W (.cells (bRow F kn) 4) (.cells (cRow F cs) 44)
  rw [← e1, ← e2]
  exact ⟨⟨blk_below hk b1.drew, a1, a2, by omega, (hb.trans (b1.mono hb.size)).drew⟩, ⟨blk_below hk d1.drew, c2, c1, by omega, (hb.trans (d1.mono hb.size)).drew⟩⟩
/-- The same, with the row of the sides. -/
structure OMs (w wr : World) (gO gK nS : Nat) (v : Value) (F : Nat) (kn : Nat → Bool) (cs : Nat → Int × Int) : Prop where
  m : OMem w wr gO gK v F kn cs
  s : wr.heap[nS]? = some (.cells (cRow 4 sd) 44 (0, 0))
  ns : nS ≠ gO ∧ nS ≠ gK
theorem OMs.below {w wr w1 : World} {gO gK nS : Nat} {v : Value} {F : Nat} {kn : Nat → Bool} {cs : Nat → Int × Int} (h : OMs w wr gO gK nS v F kn cs) (hb : Below wr.heap.size wr w1) : OMs w w1 gO gK nS v F kn cs :=
  ⟨h.m.below hb, blk_below h.s hb, h.ns⟩
theorem OMs.set {w wr : World} {gO gK nS : Nat} {v : Value} {F : Nat} {kn : Nat → Bool} {cs : Nat → Int × Int} (h : OMs w wr gO gK nS v F kn cs) {k : Nat} (hk : k < F) (x y : Int) :
    OMs w (((wr.setCell ⟨gO, k * 2, none⟩ (.int .i64 x)).setCell ⟨gO, k * 2 + 1, none⟩ (.int .i64 y)).setCell ⟨gK, k, none⟩ (.bool true)) gO gK nS v F (updB kn k) (updC cs k (x, y)) :=
  ⟨h.m.set hk x y, (Below.heap_setCell _ _ _ _ (by show nS ≠ gK; exact h.ns.2)).trans ((Below.heap_setCell _ _ _ _ (by show nS ≠ gO; exact h.ns.1)).trans ((Below.heap_setCell _ _ _ _ (by show nS ≠ gO; exact h.ns.1)).trans h.s)), h.ns⟩
theorem cRow_sides : cRow 4 sd = #[.int .i64 0, .int .i64 (-1), .int .i64 (-1), .int .i64 0, .int .i64 1, .int .i64 0, .int .i64 0, .int .i64 1] := by rfl
theorem OMs.start {w wr : World} {gO gK : Nat} {v : Value} {F : Nat} {kn : Nat → Bool} {cs : Nat → Int × Int} (h : OMem w wr gO gK v F kn cs) :
    OMs w (wr.alloc (.cells #[.int .i64 0, .int .i64 (-1), .int .i64 (-1), .int .i64 0, .int .i64 1, .int .i64 0, .int .i64 0, .int .i64 1] 44)) gO gK wr.heap.size v F kn cs :=
  ⟨h.below ((Below.refl _ _).alloc (Nat.le_refl _) _), by rw [cRow_sides]; exact heap_alloc_new wr _, by have := lt_of_block h.out; omega, by have := lt_of_block h.kno; omega⟩
/-- What the cells hold. -/
theorem OMs.cells {w wr : World} {gO gK nS : Nat} {v : Value} {F : Nat} {kn : Nat → Bool} {cs : Nat → Int × Int} (h : OMs w wr gO gK nS v F kn cs) :
    (∀ j, j < 4 → wr.cell? ⟨nS, j * 2, none⟩ = some (.int .i64 (sd j).1) ∧ wr.cell? ⟨nS, j * 2 + 1, none⟩ = some (.int .i64 (sd j).2)) ∧
    (∀ f, f < F → wr.cell? ⟨gK, f, none⟩ = some (.bool (kn f)) ∧ wr.cell? ⟨gO, f * 2, none⟩ = some (.int .i64 (cs f).1) ∧ wr.cell? ⟨gO, f * 2 + 1, none⟩ = some (.int .i64 (cs f).2)) ∧
    (∀ f, wr.frozen? ⟨gK, f, none⟩ = false) ∧ (∀ f, wr.frozen? ⟨gO, f, none⟩ = false) :=
  ⟨fun j hj => ⟨by rw [blk_cell h.s]; exact (cRow_get hj).1, by rw [blk_cell h.s]; exact (cRow_get hj).2⟩,
   fun f hf => ⟨by rw [blk_cell h.m.kno]; exact bRow_get hf, by rw [blk_cell h.m.out]; exact (cRow_get hf).1, by rw [blk_cell h.m.out]; exact (cRow_get hf).2⟩,
   fun f => blk_free h.m.kno, fun f => blk_free h.m.out⟩
theorem OMem.rd {w wr : World} {gO gK : Nat} {v : Value} {F : Nat} {kn : Nat → Bool} {cs : Nat → Int × Int} (h : OMem w wr gO gK v F kn cs) (hF : F ≤ 9) : RdF elCell wr wr.heap.size (.slice (some ⟨gO, 0, none⟩) F F) ((List.range F).map cs) := by
  refine ⟨some ⟨gO, 0, none⟩, F, by simp, by simp, by unfold maxLen; omega, fun j x hx => ⟨⟨gO, 0, none⟩, rfl, lt_of_block h.out, fun i u hu => ?_⟩⟩
  have hj : j < F := by
    have := (List.getElem?_eq_some_iff.1 hx).1
    simpa using this
  have hx' : x = cs j := by
    rw [List.getElem?_map, List.getElem?_range hj] at hx
    exact (Option.some.inj hx).symm
  subst hx'
  have e : ∀ n, (⟨gO, 0, none⟩ : Addr).add n = ⟨gO, n, none⟩ := fun n => by unfold Addr.add; split <;> simp_all
  rw [e]
  have hu' : (duoC (cs j))[i]? = some u := hu
  show wr.cell? ⟨gO, j * 2 + i, none⟩ = some u
  rw [blk_cell h.out]
  have hi : i < 2 := by
    have := (List.getElem?_eq_some_iff.1 hu').1
    simpa [duoC] using this
  rcases show i = 0 ∨ i = 1 by omega with rfl | rfl
  · rw [← hu']; exact (cRow_get hj).1
  · rw [← hu']; exact (cRow_get hj).2
theorem infoBoolO : (Try.prog.info? 4).map (fun i => (i.zero, i.size, i.bytes)) = some (some (.bool false), 1, 1) := by kernel_rfl
theorem run_makeO (F : Nat) (hF : F ≤ 16) (w : World) : (Instr.makeSlice 36 (.int .i64 (F : Int)) (.int .i64 (F : Int))).run Try.prog w = .ok (.slice (some ⟨w.heap.size, 0, none⟩) F F) (w.alloc (.cells (cRow F fun _ => (0, 0)) 44)) := by
  obtain ⟨i, hi, hzz⟩ := Option.map_eq_some_iff.1 okCell.info
  simp only [Prod.mk.injEq] at hzz
  obtain ⟨hz, hsz, hby⟩ := hzz
  have hb : (i.bytes : Int) * (F : Int) ≤ 281474976710656 := by
    rw [hby]; show ((16 : Nat) : Int) * (F : Int) ≤ _; omega
  have := run_make (P := Try.prog) w 36 44 i (.agg #[.int .i64 0, .int .i64 0]) okCell.und hi hz .i64 .i64 (F : Int) (F : Int) (by omega) (Int.le_refl _) hb (by omega)
  rw [hsz] at this
  simp only [Int.toNat_natCast] at this
  rw [← cRow_made]
  exact this
theorem run_makeK (F : Nat) (hF : F ≤ 16) (w : World) : (Instr.makeSlice 101 (.int .i64 (F : Int)) (.int .i64 (F : Int))).run Try.prog w = .ok (.slice (some ⟨w.heap.size, 0, none⟩) F F) (w.alloc (.cells (bRow F fun _ => false) 4)) := by
  rw [← bRow_made]
  exact run_make_row' (P := Try.prog) 101 4 (.bool false) 1 Try.underlying101 infoBoolO rfl .i64 .i64 F (by omega) (by omega) w
end Go.Proofs.Ytehnbalbpfmijaa
